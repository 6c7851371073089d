/- The document's Three (package pinfoldref01). No condition. -/
import Derived.Test.YtmbdhpibkhgkcaaY
import Derived.OwnWalk
namespace Go.Proofs.Ytmbdhpibkhgkcaa
open Go.RowKit

/-! ### Three sets, plain -/
def fB (s t : Ws) (x : Nat) : Bool := hasW s x && hasW t x
def fE (s t : Ws) (x : Nat) : Bool := hasW s x || hasW t x
def fO (s t : Ws) (x : Nat) : Bool := hasW s x && !hasW t x
def fil (f : Nat → Bool) (k : Nat) : List Nat := (List.range k).filter f
theorem fil_zero (f : Nat → Bool) : fil f 0 = [] := rfl
theorem fil_yes {f : Nat → Bool} {k : Nat} (h : f k = true) : fil f (k + 1) = fil f k ++ [k] := by
  simp [fil, List.range_succ, List.filter_append, h]
theorem fil_no {f : Nat → Bool} {k : Nat} (h : f k = false) : fil f (k + 1) = fil f k := by
  simp [fil, List.range_succ, List.filter_append, h]
theorem fil_len (f : Nat → Bool) (k : Nat) : (fil f k).length ≤ k := by
  have := List.length_filter_le f (List.range k)
  simpa [fil] using this
theorem fil_lt {f : Nat → Bool} {k x : Nat} (h : x ∈ fil f k) : x < k := by
  have := (List.mem_filter.1 h).1
  simpa using this

/-! ### Three slices of numbers, apart from one another -/
structure Tri (w : World) (base : Nat) (x y z : Value) (lx ly lz : List Nat) : Prop where
  ox : w.ownsRow base 3 1 x lx.length (intsL lx)
  oy : w.ownsRow base 3 1 y ly.length (intsL ly)
  oz : w.ownsRow base 3 1 z lz.length (intsL lz)
  xy : ∀ k, x.ownBlock = some k → y.ownBlock ≠ some k
  yz : ∀ k, y.ownBlock = some k → z.ownBlock ≠ some k
  zx : ∀ k, z.ownBlock = some k → x.ownBlock ≠ some k
section
variable {w w' : World} {base : Nat} {x y z : Value} {lx ly lz : List Nat}
theorem Tri.rot (h : Tri w base x y z lx ly lz) : Tri w base y z x ly lz lx := ⟨h.oy, h.oz, h.ox, h.yz, h.zx, h.xy⟩
theorem Tri.keep (h : Tri w base x y z lx ly lz) (hB : Below w.heap.size w w') : Tri w' base x y z lx ly lz :=
  ⟨own_of_heap h.ox fun k hk => hB.block k (h.ox.lt k hk).2, own_of_heap h.oy fun k hk => hB.block k (h.oy.lt k hk).2, own_of_heap h.oz fun k hk => hB.block k (h.oz.lt k hk).2, h.xy, h.yz, h.zx⟩
theorem Tri.app (h : Tri w base x y z lx ly lz) {v' : Value} {l' : List Nat} (ho : w'.ownsRow base 3 1 v' l'.length (intsL l')) (hg : w.grownBy w' x.ownBlock)
    (hb : v'.ownBlock = x.ownBlock ∨ v'.ownBlock = some w.heap.size) : Tri w' base v' y z l' ly lz := by
  have hy : ∀ k, y.ownBlock = some k → k < w.heap.size := fun k hk => (h.oy.lt k hk).2
  have hz : ∀ k, z.ownBlock = some k → k < w.heap.size := fun k hk => (h.oz.lt k hk).2
  refine ⟨ho, own_of_heap h.oy fun k hk => hg.block k (hy k hk) (fun e => h.xy k e.symm hk), own_of_heap h.oz fun k hk => hg.block k (hz k hk) (fun e => h.zx k hk e.symm), fun k hk e => ?_, h.yz, fun k hk e => ?_⟩
  · rcases hb with hb | hb
    · rw [hb] at hk; exact h.xy k hk e
    · rw [hb] at hk; have := hy k e; injection hk with hk; omega
  · rcases hb with hb | hb
    · rw [hb] at e; exact h.zx k hk e
    · rw [hb] at e; have := hz k hk; injection e with e; omega
end

theorem results_c3 {P : Program} {fn : Func} {p q r : Tmp} {ty : TypeId} (h : fn.results = #[.cell p ty, .cell q ty, .cell r ty]) (tmps : Array Value) (w : World) (g1 g2 g3 : Nat) (t : TypeId) (c1 c2 c3 : Array Value) (d : TypeDesc)
    (hp : tmps.getD p undef = .pointer (some ⟨g1, 0, none⟩)) (hq : tmps.getD q undef = .pointer (some ⟨g2, 0, none⟩)) (hr : tmps.getD r undef = .pointer (some ⟨g3, 0, none⟩))
    (k1 : w.heap[g1]? = some (.cells c1 t (0, 0))) (k2 : w.heap[g2]? = some (.cells c2 t (0, 0))) (k3 : w.heap[g3]? = some (.cells c3 t (0, 0)))
    (hu : P.underlying ty = some d) (hd : (match d with | .struct _ | .array _ _ => true | _ => false) = true) (i1 : (P.info? ty).map (·.size) = some c1.size) (i2 : (P.info? ty).map (·.size) = some c2.size) (i3 : (P.info? ty).map (·.size) = some c3.size) :
    (results fn tmps).run P w = .ok (.tuple #[.agg c1, .agg c2, .agg c3]) w := by
  have hp' : tmps[p]?.getD undef = .pointer (some ⟨g1, 0, none⟩) := by simpa using hp
  have hq' : tmps[q]?.getD undef = .pointer (some ⟨g2, 0, none⟩) := by simpa using hq
  have hr' : tmps[r]?.getD undef = .pointer (some ⟨g3, 0, none⟩) := by simpa using hr
  simp [results, h, hp', hq', hr', asAddr, run_loadVar_row w g1 t ty c1 (0, 0) d k1 hu hd i1, run_loadVar_row w g2 t ty c2 (0, 0) d k2 hu hd i2, run_loadVar_row w g3 t ty c3 (0, 0) d k3 hu hd i3]

theorem src_new1 (w : World) (a : Value) (t : TypeId) : SrcN (w.alloc (.cells #[a] t)) (.slice (some ⟨w.heap.size, 0, none⟩) 1 1) 1 1 [a] := ⟨_, _, rfl, rfl, .inr ⟨_, rfl, cells_new1 _ _ _⟩⟩

def ThreeTo (w : World) (s t : Ws) (r : Ending) (w' : World) : Prop :=
  r = .returned (.tuple #[wsV (mkW (fil (fB s t) 1024)), wsV (mkW (fil (fE s t) 1024)), wsV (mkW (fil (fO s t) 1024))]) ∧ Below w.heap.size w w'

set_option maxRecDepth 100000 in
set_option maxHeartbeats 4000000 in
theorem Three_any (s t : Ws) (hs : ∀ o, o < 16 → 0 ≤ s o) (ht : ∀ o, o < 16 → 0 ≤ t o) (w : World) : Calls Try.prog 19 #[wsV s, wsV t] w (ThreeTo w s t) := by
  have hz := zero29
  have HC1 := Lib.hid (fun (n : Nat) (hn : n < 1024) (w : World) => Has_any s hs n hn w)
  have HC2 := Lib.hid (fun (n : Nat) (hn : n < 1024) (w : World) => Has_any t ht n hn w)
  obtain ⟨W1, hW1⟩ : ∃ W1, ((((w.alloc (.cells (wsArr s) 29)).alloc (.cells (wsArr t) 29)).alloc (.cells (wsArr ws0) 29)).alloc (.cells (wsArr ws0) 29)).alloc (.cells (wsArr ws0) 29) = W1 := ⟨_, rfl⟩
  obtain ⟨A, hA⟩ : ∃ A, w.heap.size = A := ⟨_, rfl⟩
  have hsz1 : W1.heap.size = A + 5 := by rw [← hW1, ← hA]; simp
  have a0 : W1.heap[A]? = some (.cells (wsArr s) 29 (0, 0)) := by
    rw [← hW1, ← hA, heap_alloc_old _ _ (by simp only [World.size_alloc]; omega), heap_alloc_old _ _ (by simp only [World.size_alloc]; omega), heap_alloc_old _ _ (by simp only [World.size_alloc]; omega), heap_alloc_old _ _ (by simp)]
    exact heap_alloc_new _ _
  have a1 : W1.heap[A + 1]? = some (.cells (wsArr t) 29 (0, 0)) := by
    have e : A + 1 = (w.alloc (.cells (wsArr s) 29)).heap.size := by rw [← hA]; simp
    rw [e, ← hW1, heap_alloc_old _ _ (by simp only [World.size_alloc]; omega), heap_alloc_old _ _ (by simp only [World.size_alloc]; omega), heap_alloc_old _ _ (by simp)]
    exact heap_alloc_new _ _
  have a2 : W1.heap[A + 2]? = some (.cells (wsArr ws0) 29 (0, 0)) := by
    have e : A + 2 = ((w.alloc (.cells (wsArr s) 29)).alloc (.cells (wsArr t) 29)).heap.size := by rw [← hA]; simp
    rw [e, ← hW1, heap_alloc_old _ _ (by simp only [World.size_alloc]; omega), heap_alloc_old _ _ (by simp)]
    exact heap_alloc_new _ _
  have a3 : W1.heap[A + 3]? = some (.cells (wsArr ws0) 29 (0, 0)) := by
    have e : A + 3 = (((w.alloc (.cells (wsArr s) 29)).alloc (.cells (wsArr t) 29)).alloc (.cells (wsArr ws0) 29)).heap.size := by rw [← hA]; simp
    rw [e, ← hW1, heap_alloc_old _ _ (by simp)]
    exact heap_alloc_new _ _
  have a4 : W1.heap[A + 4]? = some (.cells (wsArr ws0) 29 (0, 0)) := by
    have e : A + 4 = ((((w.alloc (.cells (wsArr s) 29)).alloc (.cells (wsArr t) 29)).alloc (.cells (wsArr ws0) 29)).alloc (.cells (wsArr ws0) 29)).heap.size := by rw [← hA]; simp
    rw [e, ← hW1]
    exact heap_alloc_new _ _
  have HB1 := Lib.hid (show Below w.heap.size w W1 by
    rw [← hW1]
    exact (((((Below.refl w.heap.size w).alloc (Nat.le_refl _) _).alloc (by simp) _).alloc (by simp; omega) _).alloc (by simp; omega) _).alloc (by simp; omega) _)
  have HS1 := Lib.hid hsz1
  have HAA := Lib.hid (show w.heap.size ≤ A by omega)
  have s1 := size29 s
  have s2 := size29 t
  have z0 := wsArr_size ws0
  unfold wsV
  unfold wsV at HC1 HC2
  obtain ⟨S, hS⟩ : ∃ S, S = wsArr s := ⟨_, rfl⟩
  obtain ⟨T, hT⟩ : ∃ T, T = wsArr t := ⟨_, rfl⟩
  obtain ⟨Z, hZ⟩ : ∃ Z, Z = wsArr ws0 := ⟨_, rfl⟩
  simp only [← hS, ← hT, ← hZ] at hz HC1 HC2 a0 a1 a2 a3 a4 s1 s2 z0 hW1
  rw [← hS, ← hT]
  have HA0 := Lib.hid a0
  have HA1 := Lib.hid a1
  have HA2 := Lib.hid a2
  have HA3 := Lib.hid a3
  have HA4 := Lib.hid a4
  have HZS := Lib.hid z0
  obtain ⟨i3, I3, Z3, S3, B3⟩ := info_parts Try.info3i
  have I3 := Lib.hid I3
  have Z3 := Lib.hid Z3
  have S3 := Lib.hid S3
  have B3 := Lib.hid B3
  clear hS hT hZ a0 a1 a2 a3 a4 hsz1 z0 hs ht
  go_enter Try.func19, Try.ntmps19
  go_upto_region 2 with fail
  clear hW1 hA hz
  go_wp2_with fail
  go_loopw [7, 8, 9, 10] (fun x y z i wr => ∃ k : Nat, k ≤ 1024 ∧ i = .int .i64 k ∧ Tri wr (A + 5) x y z (fil (fB s t) k) (fil (fE s t) k) (fil (fO s t) k) ∧ Below W1.heap.size W1 wr) (fun _ _ _ i _ => 1024 - (intOf i).toNat)
  case atStart => exact ⟨0, Nat.zero_le _, rfl, ⟨World.ownsRow_nil _ _ _ _, World.ownsRow_nil _ _ _ _, World.ownsRow_nil _ _ _ _, fun k h => by (cases h), fun k h => by (cases h), fun k h => by (cases h)⟩, Below.refl _ _⟩
  case round =>
    obtain ⟨k, hk, rfl, hT, hB⟩ := hrel
    have HT := Lib.hid hT
    have HB := Lib.hid hB
    clear hT hB
    by_cases hlt : k < 1024
    · have hltI : (k : Int) < 1024 := by omega
      have HK1 := Lib.hid (fun w => HC1.out k hlt w)
      have HK2 := Lib.hid (fun w => HC2.out k hlt w)
      have lx := fil_len (fB s t) k
      have ly := fil_len (fE s t) k
      have lz := fil_len (fO s t) k
      have HXB := Lib.hid (fun (h : (hasW s k && hasW t k) = true) => fil_yes (f := fB s t) (k := k) h)
      have HXE := Lib.hid (fun (h : (hasW s k || hasW t k) = true) => fil_yes (f := fE s t) (k := k) h)
      have HXO := Lib.hid (fun (h : (hasW s k && !hasW t k) = true) => fil_yes (f := fO s t) (k := k) h)
      have HYB := Lib.hid (fun (h : (hasW s k && hasW t k) = false) => fil_no (f := fB s t) (k := k) h)
      have HYE := Lib.hid (fun (h : (hasW s k || hasW t k) = false) => fil_no (f := fE s t) (k := k) h)
      have HYO := Lib.hid (fun (h : (hasW s k && !hasW t k) = false) => fil_no (f := fO s t) (k := k) h)
      obtain ⟨p, hp⟩ : ∃ p, hasW s k = p := ⟨_, rfl⟩
      obtain ⟨q, hq⟩ : ∃ q, hasW t k = q := ⟨_, rfl⟩
      rw [hp] at HK1
      rw [hq] at HK2
      simp only [hp, hq] at HXB HXE HXO HYB HYE HYO
      clear hp hq
      have KS := Lib.hid (fun (w' : World) (hb : Below wr.heap.size wr w') => show w'.heap[A]? = some (.cells S 29 (0, 0)) ∧ w'.heap[A + 1]? = some (.cells T 29 (0, 0)) from
        have hB1 := HB.out.trans (hb.mono HB.out.size)
        ⟨(hB1.block A (by have := HS1.out; omega)).trans HA0.out, (hB1.block (A + 1) (by have := HS1.out; omega)).trans HA1.out⟩)
      go_upto_region 5 with fail
      refine wp_region_held_drew (S := fun w' => w'.heap[A]? = some (.cells S 29 (0, 0)) ∧ w'.heap[A + 1]? = some (.cells T 29 (0, 0))) (by kernel_rfl) (KS.out _ (Below.refl _ _).drew) (fun hHeld => ?_)
      have HBX0 := Lib.hid ((Below.refl wr.heap.size wr).drew)
      refine wpAnyH_take (i := 0) (v := .agg S) rfl (by kernel_rfl) (by kernel_rfl) (by kernel_rfl) (fun _ _ _ h => h) (Or.inl ⟨by rfl, ?hyla⟩) (by assumption) ?restla
      case hyla =>
        intro w hSw
        exact yields29 (.tmp 2) rfl A rfl hSw.1 s1
      simp only [Act.put, List.getElem_toArray, List.getElem_cons_succ, List.getElem_cons_zero, List.setIfInBounds_toArray, List.set_cons_succ, List.set_cons_zero]
      refine wpAnyH_take (i := 1) (v := ?va1) rfl (by kernel_rfl) (by kernel_rfl) (by kernel_rfl) (fun _ _ _ h => h) (Or.inl ⟨by rfl, ?hya1⟩) (by assumption) ?resta1
      case hya1 => (intro w hSw; (try dsimp only at hSw); go_simp) <;> with_reducible rfl
      simp only [Act.put, List.getElem_toArray, List.getElem_cons_succ, List.getElem_cons_zero, List.setIfInBounds_toArray, List.set_cons_succ, List.set_cons_zero]
      refine wpAnyH_take (i := 3) (v := .agg T) rfl (by kernel_rfl) (by kernel_rfl) (by kernel_rfl) (fun _ _ _ h => h) (Or.inl ⟨by rfl, ?hylb⟩) (by assumption) ?restlb
      case hylb =>
        intro w hSw
        exact yields29 (.tmp 3) rfl (A + 1) rfl hSw.2 s2
      simp only [Act.put, List.getElem_toArray, List.getElem_cons_succ, List.getElem_cons_zero, List.setIfInBounds_toArray, List.set_cons_succ, List.set_cons_zero]
      refine wpAnyH_take (i := 4) (v := ?va4) rfl (by kernel_rfl) (by kernel_rfl) (by kernel_rfl) (fun _ _ _ h => h) (Or.inl ⟨by rfl, ?hya4⟩) (by assumption) ?resta4
      case hya4 => (intro w hSw; (try dsimp only at hSw); go_simp) <;> with_reducible rfl
      simp only [Act.put, List.getElem_toArray, List.getElem_cons_succ, List.getElem_cons_zero, List.setIfInBounds_toArray, List.set_cons_succ, List.set_cons_zero]
      refine wpAnyH_ready (rs := [2]) (by kernel_rfl) (by simp) ?_
      refine AllReadyH.cons rfl (fun K hK => ?_) AllReadyH.nil
      go_simp
      refine (HK1.out _).mono ?_
      rintro e wx1 ⟨rfl, hbx⟩
      have HBX1 := Lib.hid (HBX0.out.trans (hbx.mono HBX0.out.size))
      clear hbx
      refine hK.out _ _ (KS.out _ HBX1.out) (fun hHeld => ?_)
      clear hK K
      try simp only [Act.put, List.getElem_toArray, List.getElem_cons_succ, List.getElem_cons_zero, List.setIfInBounds_toArray, List.set_cons_succ, List.set_cons_zero]
      refine wpAnyH_ready (rs := [5]) (by kernel_rfl) (by simp) ?_
      refine AllReadyH.cons rfl (fun K hK => ?_) AllReadyH.nil
      go_simp
      refine (HK2.out _).mono ?_
      rintro e wx2 ⟨rfl, hbx⟩
      have HBX2 := Lib.hid (HBX1.out.trans (hbx.mono HBX1.out.size))
      clear hbx
      refine hK.out _ _ (KS.out _ HBX2.out) (fun hHeld => ?_)
      clear hK K
      try simp only [Act.put, List.getElem_toArray, List.getElem_cons_succ, List.getElem_cons_zero, List.setIfInBounds_toArray, List.set_cons_succ, List.set_cons_zero]
      refine wpAnyH_take (i := 6) (v := ?va6) rfl (by kernel_rfl) (by kernel_rfl) (by kernel_rfl) (fun _ _ _ h => h) (Or.inl ⟨by rfl, ?hya6⟩) (by assumption) ?resta6
      case hya6 => (intro w hSw; (try dsimp only at hSw); go_simp) <;> with_reducible rfl
      simp only [Act.put, List.getElem_toArray, List.getElem_cons_succ, List.getElem_cons_zero, List.setIfInBounds_toArray, List.set_cons_succ, List.set_cons_zero]
      refine wpAnyH_take (i := 7) (v := ?va7) rfl (by kernel_rfl) (by kernel_rfl) (by kernel_rfl) (fun _ _ _ h => h) (Or.inl ⟨by rfl, ?hya7⟩) (by assumption) ?resta7
      case hya7 => (intro w hSw; (try dsimp only at hSw); go_simp) <;> with_reducible rfl
      simp only [Act.put, List.getElem_toArray, List.getElem_cons_succ, List.getElem_cons_zero, List.setIfInBounds_toArray, List.set_cons_succ, List.set_cons_zero]
      refine wpAnyH_done (by kernel_rfl) ?_ _
      have HT2 := Lib.hid (HT.out.keep HBX2.out)
      have HB2 := Lib.hid (HB.out.trans (HBX2.out.mono HB.out.size))
      have hge := Lib.hid (show A + 5 ≤ wx2.heap.size by have := HS1.out; have := HB2.out.size; omega)
      clear HT HB KS HBX0 hHeld HK1 HK2
      cases p <;> cases q
      · go_wp2_with fail
        go_roundw
        case rel => exact ⟨k + 1, by omega, by go_num, by rw [HYB.out rfl, HYE.out rfl, HYO.out rfl]; exact HT2.out, HB2.out⟩
        case measure => simp [intOf]; omega
      · go_upto_region 10 with (at_builtin; (refine wpList_append_srcN rfl _ _ 31 rfl (A + 5) 3 i3 _ 1 8 Try.underlying31 I3.out Z3.out S3.out B3.out rfl (by decide) rfl ((HT2.out.rot.keep ((Below.refl _ wx2).alloc (Nat.le_refl _) _)).ox) rfl (src_new1 wx2 _ 3) (by simp [Value.oneCell']) (by simp only [maxLen]; omega) (by omega) (by have := hge.out; simp; omega) ?_; intro v3 wx3 hown hgrow hblk; rw [intsL_more] at hown; have HTa := ((HT2.out.rot.keep ((Below.refl _ wx2).alloc (Nat.le_refl _) (.cells #[.int .i64 k] 3))).app (l' := fil (fE s t) k ++ [k]) (by rw [List.length_append]; exact hown) hgrow hblk); have HT3 := Lib.hid (HTa.rot.rot); have HB3 := Lib.hid (((HB2.out.alloc HB2.out.size (.cells #[.int .i64 k] 3))).grown hgrow (by have := HB2.out.size; simp; omega) (fun j hj => by have := ((HT2.out.rot.keep ((Below.refl _ wx2).alloc (Nat.le_refl _) (.cells #[.int .i64 k] 3))).ox.lt j hj).1; have := HS1.out; omega)); have hge3 := Lib.hid (show A + 5 ≤ wx3.heap.size by have := HS1.out; have := HB3.out.size; omega); clear hown hgrow hblk HTa))
        go_wp2_with fail
        go_roundw
        case rel => exact ⟨k + 1, by omega, by go_num, by rw [HYB.out rfl, HXE.out rfl, HYO.out rfl]; exact HT3.out, HB3.out⟩
        case measure => simp [intOf]; omega
      · go_upto_region 10 with (at_builtin; (refine wpList_append_srcN rfl _ _ 31 rfl (A + 5) 3 i3 _ 1 8 Try.underlying31 I3.out Z3.out S3.out B3.out rfl (by decide) rfl ((HT2.out.rot.keep ((Below.refl _ wx2).alloc (Nat.le_refl _) _)).ox) rfl (src_new1 wx2 _ 3) (by simp [Value.oneCell']) (by simp only [maxLen]; omega) (by omega) (by have := hge.out; simp; omega) ?_; intro v3 wx3 hown hgrow hblk; rw [intsL_more] at hown; have HTa := ((HT2.out.rot.keep ((Below.refl _ wx2).alloc (Nat.le_refl _) (.cells #[.int .i64 k] 3))).app (l' := fil (fE s t) k ++ [k]) (by rw [List.length_append]; exact hown) hgrow hblk); have HT3 := Lib.hid (HTa.rot.rot); have HB3 := Lib.hid (((HB2.out.alloc HB2.out.size (.cells #[.int .i64 k] 3))).grown hgrow (by have := HB2.out.size; simp; omega) (fun j hj => by have := ((HT2.out.rot.keep ((Below.refl _ wx2).alloc (Nat.le_refl _) (.cells #[.int .i64 k] 3))).ox.lt j hj).1; have := HS1.out; omega)); have hge3 := Lib.hid (show A + 5 ≤ wx3.heap.size by have := HS1.out; have := HB3.out.size; omega); clear hown hgrow hblk HTa))
        go_upto_region 4 with (at_builtin; (refine wpList_append_srcN rfl _ _ 31 rfl (A + 5) 3 i3 _ 1 8 Try.underlying31 I3.out Z3.out S3.out B3.out rfl (by decide) rfl ((HT3.out.rot.rot.keep ((Below.refl _ wx3).alloc (Nat.le_refl _) _)).ox) rfl (src_new1 wx3 _ 3) (by simp [Value.oneCell']) (by simp only [maxLen]; omega) (by omega) (by have := hge3.out; simp; omega) ?_; intro v4 wx4 hown hgrow hblk; rw [intsL_more] at hown; have HTa := ((HT3.out.rot.rot.keep ((Below.refl _ wx3).alloc (Nat.le_refl _) (.cells #[.int .i64 k] 3))).app (l' := fil (fO s t) k ++ [k]) (by rw [List.length_append]; exact hown) hgrow hblk); have HT4 := Lib.hid (HTa.rot); have HB4 := Lib.hid (((HB3.out.alloc HB3.out.size (.cells #[.int .i64 k] 3))).grown hgrow (by have := HB3.out.size; simp; omega) (fun j hj => by have := ((HT3.out.rot.rot.keep ((Below.refl _ wx3).alloc (Nat.le_refl _) (.cells #[.int .i64 k] 3))).ox.lt j hj).1; have := HS1.out; omega)); have hge4 := Lib.hid (show A + 5 ≤ wx4.heap.size by have := HS1.out; have := HB4.out.size; omega); clear hown hgrow hblk HTa))
        go_wp2_with fail
        go_roundw
        case rel => exact ⟨k + 1, by omega, by go_num, by rw [HYB.out rfl, HXE.out rfl, HXO.out rfl]; exact HT4.out, HB4.out⟩
        case measure => simp [intOf]; omega
      · go_upto_region 8 with (at_builtin; (refine wpList_append_srcN rfl _ _ 31 rfl (A + 5) 3 i3 _ 1 8 Try.underlying31 I3.out Z3.out S3.out B3.out rfl (by decide) rfl ((HT2.out.keep ((Below.refl _ wx2).alloc (Nat.le_refl _) _)).ox) rfl (src_new1 wx2 _ 3) (by simp [Value.oneCell']) (by simp only [maxLen]; omega) (by omega) (by have := hge.out; simp; omega) ?_; intro v3 wx3 hown hgrow hblk; rw [intsL_more] at hown; have HTa := ((HT2.out.keep ((Below.refl _ wx2).alloc (Nat.le_refl _) (.cells #[.int .i64 k] 3))).app (l' := fil (fB s t) k ++ [k]) (by rw [List.length_append]; exact hown) hgrow hblk); have HT3 := Lib.hid (HTa); have HB3 := Lib.hid (((HB2.out.alloc HB2.out.size (.cells #[.int .i64 k] 3))).grown hgrow (by have := HB2.out.size; simp; omega) (fun j hj => by have := ((HT2.out.keep ((Below.refl _ wx2).alloc (Nat.le_refl _) (.cells #[.int .i64 k] 3))).ox.lt j hj).1; have := HS1.out; omega)); have hge3 := Lib.hid (show A + 5 ≤ wx3.heap.size by have := HS1.out; have := HB3.out.size; omega); clear hown hgrow hblk HTa))
        go_upto_region 10 with (at_builtin; (refine wpList_append_srcN rfl _ _ 31 rfl (A + 5) 3 i3 _ 1 8 Try.underlying31 I3.out Z3.out S3.out B3.out rfl (by decide) rfl ((HT3.out.rot.keep ((Below.refl _ wx3).alloc (Nat.le_refl _) _)).ox) rfl (src_new1 wx3 _ 3) (by simp [Value.oneCell']) (by simp only [maxLen]; omega) (by omega) (by have := hge3.out; simp; omega) ?_; intro v4 wx4 hown hgrow hblk; rw [intsL_more] at hown; have HTa := ((HT3.out.rot.keep ((Below.refl _ wx3).alloc (Nat.le_refl _) (.cells #[.int .i64 k] 3))).app (l' := fil (fE s t) k ++ [k]) (by rw [List.length_append]; exact hown) hgrow hblk); have HT4 := Lib.hid (HTa.rot.rot); have HB4 := Lib.hid (((HB3.out.alloc HB3.out.size (.cells #[.int .i64 k] 3))).grown hgrow (by have := HB3.out.size; simp; omega) (fun j hj => by have := ((HT3.out.rot.keep ((Below.refl _ wx3).alloc (Nat.le_refl _) (.cells #[.int .i64 k] 3))).ox.lt j hj).1; have := HS1.out; omega)); have hge4 := Lib.hid (show A + 5 ≤ wx4.heap.size by have := HS1.out; have := HB4.out.size; omega); clear hown hgrow hblk HTa))
        go_wp2_with fail
        go_roundw
        case rel => exact ⟨k + 1, by omega, by go_num, by rw [HXB.out rfl, HXE.out rfl, HYO.out rfl]; exact HT4.out, HB4.out⟩
        case measure => simp [intOf]; omega
    · obtain rfl : k = 1024 := by omega
      have l1 := fil_len (fB s t) 1024
      have l2 := fil_len (fE s t) 1024
      have l3 := fil_len (fO s t) 1024
      have HM1 := Lib.hid (fun (w' : World) (h : Tri w' (A + 5) u7 u8 u9 (fil (fB s t) 1024) (fil (fE s t) 1024) (fil (fO s t) 1024)) => Make01_any (SlL.own h.ox) (fun x hx => fil_lt hx) (by omega))
      have HM2 := Lib.hid (fun (w' : World) (h : Tri w' (A + 5) u7 u8 u9 (fil (fB s t) 1024) (fil (fE s t) 1024) (fil (fO s t) 1024)) => Make01_any (SlL.own h.oy) (fun x hx => fil_lt hx) (by omega))
      have HM3 := Lib.hid (fun (w' : World) (h : Tri w' (A + 5) u7 u8 u9 (fil (fB s t) 1024) (fil (fE s t) 1024) (fil (fO s t) 1024)) => Make01_any (SlL.own h.oz) (fun x hx => fil_lt hx) (by omega))
      obtain ⟨m1, h1⟩ : ∃ m, mkW (fil (fB s t) 1024) = m := ⟨_, rfl⟩
      obtain ⟨m2, h2⟩ : ∃ m, mkW (fil (fE s t) 1024) = m := ⟨_, rfl⟩
      obtain ⟨m3, h3⟩ : ∃ m, mkW (fil (fO s t) 1024) = m := ⟨_, rfl⟩
      rw [h1] at HM1
      rw [h2] at HM2
      rw [h3] at HM3
      have E1 := Lib.hid h1
      have E2 := Lib.hid h2
      have E3 := Lib.hid h3
      have y1 := size29 m1
      have y2 := size29 m2
      have y3 := size29 m3
      have o1 := one29 m1
      have o2 := one29 m2
      have o3 := one29 m3
      have q1 : Z.size = (wsArr m1).size := by rw [HZS.out, wsArr_size]
      have q2 : Z.size = (wsArr m2).size := by rw [HZS.out, wsArr_size]
      have q3 : Z.size = (wsArr m3).size := by rw [HZS.out, wsArr_size]
      unfold wsV at HM1 HM2 HM3
      obtain ⟨V1, hV1⟩ : ∃ V, wsArr m1 = V := ⟨_, rfl⟩
      obtain ⟨V2, hV2⟩ : ∃ V, wsArr m2 = V := ⟨_, rfl⟩
      obtain ⟨V3, hV3⟩ : ∃ V, wsArr m3 = V := ⟨_, rfl⟩
      simp only [hV1] at HM1 y1 o1 q1
      simp only [hV2] at HM2 y2 o2 q2
      simp only [hV3] at HM3 y3 o3 q3
      have F1 := Lib.hid hV1
      have F2 := Lib.hid hV2
      have F3 := Lib.hid hV3
      have KT := Lib.hid (fun (w' : World) (hb : Below wr.heap.size wr w') => HT.out.keep hb)
      clear h1 h2 h3 hV1 hV2 hV3
      go_wp2_with fail
      refine (HM1.out _ HT.out).mono ?_
      rintro r wa ⟨rfl, hb⟩
      have HBa := Lib.hid hb
      clear hb
      go_wp2_with fail
      refine (HM2.out _ (KT.out _ HBa.out)).mono ?_
      rintro r wb ⟨rfl, hb⟩
      have HBb := Lib.hid (HBa.out.trans (hb.mono HBa.out.size))
      clear hb
      go_wp2_with fail
      refine (HM3.out _ (KT.out _ HBb.out)).mono ?_
      rintro r wc ⟨rfl, hb⟩
      have HBc := Lib.hid (HB.out.trans ((HBb.out.trans (hb.mono HBb.out.size)).mono HB.out.size))
      clear hb
      have G2 := Lib.hid ((HBc.out.block (A + 2) (by have := HS1.out; omega)).trans HA2.out)
      have G3 := Lib.hid ((HBc.out.block (A + 3) (by have := HS1.out; omega)).trans HA3.out)
      have G4 := Lib.hid ((HBc.out.block (A + 4) (by have := HS1.out; omega)).trans HA4.out)
      have J1 := Lib.hid (setRow_heap wc (A + 2) Z V1 29 (0, 0) G2.out)
      have J2 := Lib.hid (setRow_heap (wc.setRow (A + 2) V1) (A + 3) Z V2 29 (0, 0) ((setRow_other wc (A + 2) (A + 3) V1 (by omega)).trans G3.out))
      have J3 := Lib.hid (setRow_heap ((wc.setRow (A + 2) V1).setRow (A + 3) V2) (A + 4) Z V3 29 (0, 0) ((setRow_other _ (A + 3) (A + 4) V2 (by omega)).trans ((setRow_other wc (A + 2) (A + 4) V1 (by omega)).trans G4.out)))
      go_wp2_with (first | (refine wpList_store_row rfl 29 _ _ rfl (A + 2) V1 rfl rfl 29 Z G2.out y1 q1 o1 ?_) | (refine wpList_store_row rfl 29 _ _ rfl (A + 3) V2 rfl rfl 29 Z ((setRow_other wc (A + 2) (A + 3) V1 (by omega)).trans G3.out) y2 q2 o2 ?_) | (refine wpList_store_row rfl 29 _ _ rfl (A + 4) V3 rfl rfl 29 Z ((setRow_other _ (A + 3) (A + 4) V2 (by omega)).trans ((setRow_other wc (A + 2) (A + 4) V1 (by omega)).trans G4.out)) y3 q3 o3 ?_))
      refine bodyPost_ret (results_c3 rfl _ _ (A + 2) (A + 3) (A + 4) 29 V1 V2 V3 _ rfl rfl rfl ((setRow_other _ (A + 4) (A + 2) V3 (by omega)).trans ((setRow_other _ (A + 3) (A + 2) V2 (by omega)).trans J1.out)) ((setRow_other _ (A + 4) (A + 3) V3 (by omega)).trans J2.out) J3.out Try.underlying29 rfl y1 y2 y3) rfl ⟨?_, ?_⟩
      · rw [E1.out, E2.out, E3.out]
        unfold wsV
        rw [F1.out, F2.out, F3.out]
      · have hb := HB1.out.trans (HBc.out.mono (Nat.le_trans HB1.out.size (Nat.le_refl _)))
        exact below_setRow (below_setRow (below_setRow hb (by have := HAA.out; omega) _) (by have := HAA.out; omega) _) (by have := HAA.out; omega) _
end Go.Proofs.Ytmbdhpibkhgkcaa
