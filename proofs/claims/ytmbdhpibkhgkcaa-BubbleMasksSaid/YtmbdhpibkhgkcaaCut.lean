/- A drawn region whose last operations come one behind the other is cut into its head, which may be walked in any way, and its tail. No condition. -/
import Derived.StillTail
import Derived.WalkKit
import Derived.Deep.RegionHeld3
namespace Go.Proofs.Ytmbdhpibkhgkcaa
open Go

section
variable {P : Program} {md : Region.Mode}

/-- Each operation waits for earlier ones alone, and is guarded by an earlier one alone. -/
def topoB (md : Region.Mode) (ops : Array Oper) : Bool :=
  (List.range ops.size).all fun i => match ops[i]? with
    | some o => (o.after.all fun e => !Region.binds md e || decide (e.on < i)) && (match o.guard with | some (g, _) => decide (g < i) | none => true)
    | none => true

theorem topoB_spec {ops : Array Oper} (h : topoB md ops = true) {i : Nat} {o : Oper} (ho : ops[i]? = some o) :
    (∀ e ∈ o.after, Region.binds md e = true → e.on < i) ∧ ∀ g want, o.guard = some (g, want) → g < i := by
  have hi : i < ops.size := (Array.getElem?_eq_some_iff.1 ho).1
  have h1 := List.all_eq_true.1 h i (List.mem_range.2 hi)
  simp only [ho, Bool.and_eq_true] at h1
  refine ⟨fun e he hb => ?_, fun g want hg => ?_⟩
  · have := Array.all_eq_true'.1 h1.1 e he
    simpa [hb] using this
  · have h2 := h1.2
    rw [hg] at h2
    simpa using h2

def cutB (md : Region.Mode) (ops : Array Oper) (n : Nat) : Bool :=
  topoB md ops && decide (n < ops.size) && Region.sinkB md ops n && Region.chainB md ops n

/-- The head's post: the tail, one operation behind the other. -/
def headPost (P : Program) (l : List Oper) (n : Nat) (Q : Exit → Act → World → Prop) : Exit → Act → World → Prop
  | .normal, a, w => wpList P l.toArray Q (l.drop n) a w
  | e, a, w => Q e a w

theorem letsOut_head {l : List Oper} {n : Nat} {Q : Exit → Act → World → Prop} (h : LetsOut (headPost P l n Q)) : LetsOut Q := h

theorem operWp_head {l : List Oper} {n : Nat} {Q : Exit → Act → World → Prop} {o : Oper} {a : Act} {w : World} {K K' : Act → World → Prop} (h : ∀ a w, K a w → K' a w)
    (hh : o.wp P a w K (headPost P l n Q)) : o.wp P a w K' Q := by
  unfold Oper.wp at *
  generalize (execOp a.eval o).run P w = r at *
  cases r with
  | ok x w' =>
    cases x <;> simp only [Oper.upon] at hh ⊢ <;>
      first
        | exact h _ _ hh
        | exact Calls.mono hh (fun e w'' he => by cases e <;> first | exact h _ _ he | exact he)
        | exact Rows.mono hh (fun _ _ he => h _ _ he)
  | halt x w' => cases x <;> simp only [Oper.upon] at hh ⊢ <;> exact hh

theorem yielded_take {l : List Oper} {n g : Nat} (hg : g < n) (t : Array Value) : yielded (l.take n).toArray t g = yielded l.toArray t g := by
  unfold yielded
  have : (l.take n).toArray[g]? = l.toArray[g]? := by simp [List.getElem?_take, hg]
  rw [this]

theorem wpOp_head {l : List Oper} {n i : Nat} (hin : i < n) (ht : topoB md l.toArray = true) {Q : Exit → Act → World → Prop} {a : Act} {w : World} {K K' : Act → World → Prop} (h : ∀ a w, K a w → K' a w)
    (hh : wpOp P (l.take n).toArray (headPost P l n Q) i K a w) : wpOp P l.toArray Q i K' a w := by
  unfold wpOp at *
  have e : (l.take n).toArray[i]? = l.toArray[i]? := by simp [List.getElem?_take, hin]
  rw [e] at hh
  cases ho : l.toArray[i]? with
  | none => rw [ho] at hh; exact h _ _ hh
  | some o =>
    rw [ho] at hh
    simp only at hh ⊢
    have hw : Region.wanted o (yielded (l.take n).toArray a.tmps) = Region.wanted o (yielded l.toArray a.tmps) := by
      unfold Region.wanted
      cases hg : o.guard with
      | none => rfl
      | some gw =>
        obtain ⟨g, want⟩ := gw
        have := (topoB_spec ht ho).2 g want hg
        simp only [yielded_take (show g < n by omega)]
    rw [hw] at hh
    split
    · rename_i h1; simp only [h1, if_true] at hh; exact hh.imp (operWp_head h) (fun x => ⟨x.1, letsOut_head x.2⟩)
    · rename_i h1; simp only [h1] at hh; exact h _ _ hh

theorem wpAny_more {ops : Array Oper} {Q : Exit → Act → World → Prop} : ∀ (f g : Nat) (listed : Array Bool) (a : Act) (w : World), wpAny P md ops Q f listed a w → wpAny P md ops Q (f + g) listed a w
  | 0, 0, _, _, _, h => h
  | 0, g + 1, _, _, _, h => by
    rw [Nat.zero_add]
    exact ⟨fun _ => h.2, fun i hi => by rw [h.1] at hi; cases hi⟩
  | f + 1, g, _, _, _, h => by
    rw [show f + 1 + g = (f + g) + 1 by omega]
    exact ⟨h.1, fun i hi => wpOp_mono (fun a' w' h' => wpAny_more f g _ a' w' h') (h.2 i hi)⟩

/-- All of the head have come up, nothing of the tail: the tail is a row. -/
theorem seq_of_head {ops : Array Oper} {n : Nat} (ht : topoB md ops = true) (hc : Region.chainB md ops n = true) :
    ∀ (g k : Nat) (listed : Array Bool), k + g = ops.size → n ≤ k → listed.size = ops.size → (∀ i, i < k → listed.getD i false = true) → (∀ i, k ≤ i → i < ops.size → listed.getD i true = false) →
      Region.seqB md ops g k listed = true
  | 0, k, listed, hk, _, _, hl, _ => by
    unfold Region.seqB
    rw [List.isEmpty_iff]
    refine List.eq_nil_iff_forall_not_mem.2 fun j hj => ?_
    obtain ⟨h1, o, ho, _⟩ := mem_ready.1 hj
    have hjl : j < ops.size := (Array.getElem?_eq_some_iff.1 ho).1
    have h2 := hl j (by omega)
    rw [getD_both h1] at h2
    cases h2
  | g + 1, k, listed, hk, hn, hs, hl, hu => by
    have hkl : k < ops.size := by omega
    have hr : Region.ready md ops listed = [k] := by
      have hmem : k ∈ Region.ready md ops listed := mem_ready.2 ⟨hu k (Nat.le_refl _) hkl, ops[k], Array.getElem?_eq_getElem hkl, fun e he hb => hl _ ((topoB_spec ht (Array.getElem?_eq_getElem hkl)).1 e he hb)⟩
      have hall : ∀ j ∈ Region.ready md ops listed, j = k := fun j hj => by
        obtain ⟨h1, o, ho, hall⟩ := mem_ready.1 hj
        have hjl : j < ops.size := (Array.getElem?_eq_some_iff.1 ho).1
        rcases Nat.lt_or_ge j k with h | h
        · have h2 := hl j h
          rw [getD_both h1] at h2
          cases h2
        · rcases Nat.eq_or_lt_of_le h with h | h
          · exact h.symm
          · have h3 := List.all_eq_true.1 hc j (List.mem_range.2 hjl)
            simp only [Bool.or_eq_true, decide_eq_true_eq] at h3
            rcases h3 with h3 | h3
            · omega
            · obtain ⟨o', ho', e, he, hb, hon⟩ := Region.waitsFor_spec h3
              have : o' = o := Option.some.inj (ho'.symm.trans ho)
              subst this
              have h4 := hall e he hb
              rw [hon, getD_both (hu (j - 1) (by omega) (by omega))] at h4
              cases h4
      have hnd : (Region.ready md ops listed).Nodup := by unfold Region.ready; exact List.Nodup.sublist List.filter_sublist List.nodup_range
      generalize Region.ready md ops listed = l at *
      match l, hmem, hall, hnd with
      | [x], _, hall, _ => rw [hall x (by simp)]
      | x :: y :: r, _, hall, hnd =>
        exfalso
        have h1 := hall x (by simp)
        have h2 := hall y (by simp)
        rw [h1, h2] at hnd
        exact (List.nodup_cons.1 hnd).1 (by simp)
    unfold Region.seqB
    rw [hr]
    simp only [decide_true, Bool.true_and]
    refine seq_of_head ht hc g (k + 1) _ (by omega) (by omega) (by simp [hs]) (fun i hi => ?_) (fun i hi hi2 => ?_)
    · by_cases e : i = k
      · subst e; simp [hs, hkl]
      · rw [getD_set_ne false (Ne.symm e)]; exact hl i (by omega)
    · rw [getD_set_ne true (by omega)]; exact hu i (by omega) hi2

theorem head_all {ops : Array Oper} {n : Nat} {listed : Array Bool} (ht : topoB md ops = true) (hn : n ≤ ops.size) (hs : listed.size = ops.size) (h : ∀ i, i < n → i ∉ Region.ready md ops listed) : ∀ i, i < n → listed.getD i false = true := by
  intro i
  induction i using Nat.strongRecOn with
  | _ i ih =>
    intro hi
    cases hl : listed.getD i false with
    | true => rfl
    | false =>
      exfalso
      refine h i hi (mem_ready.2 ⟨getD_in (by omega) hl, ops[i], Array.getElem?_eq_getElem (by omega), fun e he hb => ?_⟩)
      have := (topoB_spec ht (Array.getElem?_eq_getElem (by omega : i < ops.size))).1 e he hb
      exact ih e.on this (by omega)

theorem wpAny_head {l : List Oper} {n : Nat} (ht : topoB md l.toArray = true) (hn : n < l.toArray.size) (hsk : Region.sinkB md l.toArray n = true) (hc : Region.chainB md l.toArray n = true) {Q : Exit → Act → World → Prop} :
    ∀ (f : Nat) (lh listed : Array Bool) (a : Act) (w : World), HeadInv md l.toArray n listed → lh.size = n → (∀ i, i < n → lh.getD i true = listed.getD i true) →
      wpAny P md (l.take n).toArray (headPost P l n Q) f lh a w → wpAny P md l.toArray Q (f + (l.toArray.size - n)) listed a w := by
  intro f
  have hsz : (l.take n).toArray.size = n := by simp at hn ⊢; omega
  have hget : ∀ i, i < n → (l.take n).toArray[i]? = l.toArray[i]? := fun i hi => by simp [List.getElem?_take, hi]
  -- what may come up of the head is the same
  have hready : ∀ (lh listed : Array Bool), HeadInv md l.toArray n listed → lh.size = n → (∀ i, i < n → lh.getD i true = listed.getD i true) → ∀ i, i < n → (i ∈ Region.ready md l.toArray listed ↔ i ∈ Region.ready md (l.take n).toArray lh) := fun lh listed inv hlh he i hi => by
    have hf : ∀ j, j < n → lh.getD j false = listed.getD j false := fun j hj => by
      have h1 := he j hj
      have h2 : j < listed.size := by rw [inv.size]; omega
      have h3 : j < lh.size := by omega
      simp [h2, h3] at h1 ⊢
      exact h1
    rw [mem_ready, mem_ready, he i hi, hget i hi]
    constructor
    · rintro ⟨h1, o, ho, h2⟩
      exact ⟨h1, o, ho, fun e hm hb => by rw [hf _ (by have := (topoB_spec ht ho).1 e hm hb; omega)]; exact h2 e hm hb⟩
    · rintro ⟨h1, o, ho, h2⟩
      exact ⟨h1, o, ho, fun e hm hb => by rw [← hf _ (by have := (topoB_spec ht ho).1 e hm hb; omega)]; exact h2 e hm hb⟩
  have hnone : ∀ (lh listed : Array Bool) (a : Act) (w : World) (f : Nat), HeadInv md l.toArray n listed → lh.size = n → (∀ i, i < n → lh.getD i true = listed.getD i true) → Region.ready md (l.take n).toArray lh = [] → wpList P l.toArray Q (l.drop n) a w →
      wpAny P md l.toArray Q (f + (l.toArray.size - n)) listed a w := fun lh listed a w f inv hlh he h0 h => by
    have hall := head_all (n := n) ht (Nat.le_of_lt hn) inv.size (fun i hi hm => by
      have := (hready lh listed inv hlh he i hi).1 hm
      rw [h0] at this
      cases this)
    have hseq := seq_of_head ht hc (l.toArray.size - n) n listed (by omega) (Nat.le_refl _) inv.size hall inv.tail
    have hlen : (l.drop n).length = l.toArray.size - n := by simp
    have := wpAny_of_seq (P := P) (Q' := Q) (l.drop n) n listed a w (fun j => by simp [List.getElem?_drop]) (by rw [hlen]; exact hseq) h
    rw [hlen] at this
    rw [Nat.add_comm]
    exact wpAny_more _ _ _ _ _ this
  induction f with
  | zero =>
    intro lh listed a w inv hlh he h
    exact hnone lh listed a w 0 inv hlh he h.1 h.2
  | succ f ih =>
    intro lh listed a w inv hlh he h
    by_cases h0 : Region.ready md (l.take n).toArray lh = []
    · exact hnone lh listed a w (f + 1) inv hlh he h0 (h.1 h0)
    · obtain ⟨i0, hi0⟩ := List.exists_mem_of_ne_nil _ h0
      have hi0n : i0 < n := by
        obtain ⟨_, o, ho, _⟩ := mem_ready.1 hi0
        have := (Array.getElem?_eq_some_iff.1 ho).1
        omega
      have hun : listed.getD i0 true = false := (mem_ready.1 ((hready lh listed inv hlh he i0 hi0n).2 hi0)).1
      have htw := tail_waits hsk hc hn inv _ i0 rfl hi0n hun
      rw [show f + 1 + (l.toArray.size - n) = (f + (l.toArray.size - n)) + 1 by omega]
      refine ⟨fun hr => ?_, fun i hi => ?_⟩
      · have := (hready lh listed inv hlh he i0 hi0n).2 hi0
        rw [hr] at this
        cases this
      · have hin : i < n := by
          rcases Nat.lt_or_ge i n with h | h
          · exact h
          · exact absurd hi (htw i h)
        refine wpOp_head (md := md) hin ht (fun a' w' h' => ?_) (h.2 i ((hready lh listed inv hlh he i hin).1 hi))
        refine ih _ _ a' w' (inv.set hi hin) (by simp [hlh]) (fun j hj => ?_) h'
        by_cases e : i = j
        · subst e
          have h2 : i < listed.size := by rw [inv.size]; omega
          have h3 : i < lh.size := by omega
          simp [h2, h3]
        · rw [getD_set_ne true e, getD_set_ne true e]; exact he j hj
end

/-- A drawn region is its head, drawn, and behind it its tail. -/
theorem wp_region_cut {P : Program} {id : Nat} {Q : Exit → Act → World → Prop} {a : Act} {w : World} {l : List Oper} (n : Nat) (hm : P.follows .mixedOrders = true) (hB : cutB .any l.toArray n = true)
    (h : wpAny P .any (l.take n).toArray (headPost P l n Q) n (Array.replicate n false) a { w with drawn := w.drawn + 1 }) : (Code.region id l.toArray true).wp P Q a w := by
  simp only [cutB, Bool.and_eq_true, decide_eq_true_eq] at hB
  obtain ⟨⟨⟨ht, hn⟩, hsk⟩, hc⟩ := hB
  have inv0 : HeadInv .any l.toArray n (Array.replicate l.toArray.size false) :=
    ⟨by simp, fun j oj _ hl => (by rw [getD_replicate_false] at hl; cases hl), fun t _ ht => getD_in (by simpa using ht) (getD_replicate_false _ _)⟩
  refine wp_region_any hm ?_
  have := wpAny_head (P := P) (Q := Q) ht hn hsk hc n (Array.replicate n false) (Array.replicate l.toArray.size false) a { w with drawn := w.drawn + 1 } inv0 (by simp) (fun i hi => by
    have : i < l.toArray.size := by omega
    simp at this
    simp [hi, this]) h
  rw [show n + (l.toArray.size - n) = l.toArray.size by omega] at this
  exact this

/-- The same, as it is handed to the tactics for a drawn region whose loads are taken first. -/
theorem wp_region_cut_held {P : Program} {id : Nat} {Q : Exit → Act → World → Prop} {a : Act} {w : World} {l : List Oper} (S : World → Prop) (n : Nat) (hm : P.follows .mixedOrders = true) (hB : cutB .any l.toArray n = true) (hS : S w.drew)
    (h : S w.drew → wpAnyH P .any (l.take n).toArray (headPost P l n Q) S n (Array.replicate n false) a w.drew) : (Code.region id l.toArray true).wp P Q a w :=
  wp_region_cut n hm hB (wpAny_of_held _ _ _ _ (h hS))
end Go.Proofs.Ytmbdhpibkhgkcaa
