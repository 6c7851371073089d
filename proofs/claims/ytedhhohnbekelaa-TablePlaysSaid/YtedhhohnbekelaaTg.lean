/- Both tables in memory, and what each call leaves of them. No condition. -/
import Derived.Test.YtedhhohnbekelaaTf
import Derived.Test.YtedhhohnbekelaaY
namespace Go.Proofs.Ytedhhohnbekelaa
open Go.RowKit Go.Deep

/-- The rows, as the list of waits says them. -/
def Rel (W : List (Nat × Nat)) (R : Nat → List Nat) : Prop := ∀ i : Nat, R i = (W.filter fun p => p.2 == i).map (·.1)

theorem Rel.mem {W : List (Nat × Nat)} {R : Nat → List Nat} (h : Rel W R) {x i : Nat} : x ∈ R i ↔ (x, i) ∈ W := by
  rw [h i, List.mem_map]
  constructor
  · rintro ⟨⟨a, b⟩, hp, rfl⟩
    rw [List.mem_filter] at hp
    have : b = i := by simpa using hp.2
    subst this
    exact hp.1
  · intro hp
    exact ⟨(x, i), List.mem_filter.2 ⟨hp, by simp⟩, rfl⟩

theorem Rel.snoc {W : List (Nat × Nat)} {R : Nat → List Nat} (h : Rel W R) (x i : Nat) : Rel (W ++ [(x, i)]) (updL R i (R i ++ [x])) := by
  intro j
  unfold updL
  rw [List.filter_append, List.map_append, ← h j]
  by_cases e : j = i
  · subst e; simp
  · have : ¬ i = j := fun h => e h.symm
    simp [e, this]

theorem rel_join {n room : Nat} {ts : Nat → Tk} {W : List (Nat × Nat)} {R : Nat → List Nat} (h : Rel W R) (hw : ∀ p ∈ W, p.2 < n) (hn : n ≤ room) (id on : Int) :
    (joinD n room ts R id on).1 = (rJoinD n ts W id on).1 ∧ Rel (rJoinD n ts W id on).2 (joinD n room ts R id on).2 ∧ ∀ p ∈ (rJoinD n ts W id on).2, p.2 < n := by
  unfold joinD rJoinD
  split
  · exact ⟨rfl, h, hw⟩
  · rename_i hv
    have hv : (0 ≤ id ∧ id < n) ∧ 0 ≤ on ∧ on < n := Classical.not_not.1 hv
    split
    · exact ⟨rfl, h, hw⟩
    · split
      · exact ⟨rfl, h, hw⟩
      · unfold pushR
        rw [if_pos (by omega)]
        by_cases ha : inR R id.toNat room = -1
        · have hno := inR_none.1 ha
          have hany : W.any (fun p => p.1 == id.toNat) = false := by
            rw [List.any_eq_false]
            rintro ⟨a, b⟩ hp
            have hb := hw _ hp
            simp only at hb
            intro e
            have e : a = id.toNat := by simpa using e
            subst e
            exact hno b (by omega) (h.mem.2 hp)
          rw [if_pos ha, hany]
          refine ⟨rfl, h.snoc _ _, ?_⟩
          intro p hp
          rcases List.mem_append.1 hp with hp | hp
          · exact hw p hp
          · simp at hp; subst hp; simp only; omega
        · obtain ⟨i, -, h2, h3⟩ := inR_some ha
          have hany : W.any (fun p => p.1 == id.toNat) = true := by
            rw [List.any_eq_true]
            exact ⟨_, h.mem.1 h3, by simp⟩
          rw [if_neg ha, hany]
          exact ⟨rfl, h, hw⟩

theorem rel_joined {n : Nat} {W : List (Nat × Nat)} {R : Nat → List Nat} (h : Rel W R) (hw : ∀ p ∈ W, p.2 < n) (on : Int) :
    joinedL n R on = outL W on ∧ Rel (leftL W on) (joinedR n R on) ∧ ∀ p ∈ leftL W on, p.2 < n := by
  refine ⟨?_, ?_, fun p hp => hw p (List.mem_filter.1 hp).1⟩
  · unfold joinedL outL
    split
    · rw [h]
      congr 1
      apply List.filter_congr
      intro p _
      rw [Bool.eq_iff_iff]
      simp
      omega
    · rename_i hv
      have : (W.filter fun p => (p.2 : Int) == on) = [] := by
        rw [List.filter_eq_nil_iff]
        intro p hp
        have := hw p hp
        simp
        omega
      rw [this]
      rfl
  · intro i
    unfold joinedR leftL
    rw [List.filter_filter]
    split
    · rename_i hv
      unfold updL
      split
      · rename_i e
        subst e
        symm
        rw [List.map_eq_nil_iff, List.filter_eq_nil_iff]
        intro p _
        simp
        omega
      · rename_i e
        rw [h]
        congr 1
        apply List.filter_congr
        intro p _
        rw [Bool.eq_iff_iff]
        simp
        omega
    · rename_i hv
      rw [h]
      congr 1
      apply List.filter_congr
      intro p hp
      have := hw p hp
      rw [Bool.eq_iff_iff]
      simp
      omega

/-- Both tables, and what is kept beside them. -/
structure Pr (w0 w : World) (base tb c bn bl rb rs : Nat) (vn vl : Value) (room : Nat) (Kp : List (Nat × Obj)) (lv xl xw : Value) (d : Tb) (e : Rb) : Prop where
  tab : IsTab w base tb c bn bl vn vl lv d.n room d.ts d.R
  ref : IsRef w rb rs xl xw room e
  sep : ∀ g, lv.ownBlock = some g → g ≠ rb ∧ xl.ownBlock ≠ some g ∧ xw.ownBlock ≠ some g
  keep : ∀ p ∈ Kp, w.heap[p.1]? = some p.2 ∧ rb < p.1 ∧ lv.ownBlock ≠ some p.1 ∧ xl.ownBlock ≠ some p.1
  bel : Below w0.heap.size w0 w
  low : base ≤ rb ∧ w0.heap.size ≤ tb ∧ w0.heap.size ≤ bn ∧ w0.heap.size ≤ bl ∧ w0.heap.size ≤ rb

def PrE (w0 w : World) (base tb c bn bl rb rs : Nat) (vn vl : Value) (room : Nat) (Kp : List (Nat × Obj)) (d : Tb) (e : Rb) : Prop := ∃ lv xl xw, Pr w0 w base tb c bn bl rb rs vn vl room Kp lv xl xw d e

section
variable {w0 w w' : World} {base tb c bn bl rb rs room : Nat} {vn vl lv xl xw : Value} {Kp : List (Nat × Obj)} {d : Tb} {e : Rb}

theorem Pr.below (h : Pr w0 w base tb c bn bl rb rs vn vl room Kp lv xl xw d e) (hB : Below w.heap.size w w') : Pr w0 w' base tb c bn bl rb rs vn vl room Kp lv xl xw d e :=
  ⟨h.tab.below hB, h.ref.below hB, h.sep, fun p hp => ⟨(hB.block p.1 (Array.getElem?_eq_some_iff.1 (h.keep p hp).1).1).trans (h.keep p hp).1, (h.keep p hp).2⟩, h.bel.trans (hB.mono h.bel.size), h.low⟩
theorem PrE.below (h : PrE w0 w base tb c bn bl rb rs vn vl room Kp d e) (hB : Below w.heap.size w w') : PrE w0 w' base tb c bn bl rb rs vn vl room Kp d e := by
  obtain ⟨lv, xl, xw, h⟩ := h
  exact ⟨lv, xl, xw, h.below hB⟩
theorem PrE.alloc (h : PrE w0 w base tb c bn bl rb rs vn vl room Kp d e) (o : Obj) : PrE w0 (w.alloc o) base tb c bn bl rb rs vn vl room Kp d e := h.below ((Below.refl _ _).alloc (Nat.le_refl _) o)
theorem PrE.bel (h : PrE w0 w base tb c bn bl rb rs vn vl room Kp d e) : Below w0.heap.size w0 w := by
  obtain ⟨lv, xl, xw, h⟩ := h
  exact h.bel
theorem PrE.kept (h : PrE w0 w base tb c bn bl rb rs vn vl room Kp d e) {A : Nat} {o : Obj} (hp : (A, o) ∈ Kp) : w.heap[A]? = some o := by
  obtain ⟨lv, xl, xw, h⟩ := h
  exact (h.keep _ hp).1

/-- A new block is kept from now on. -/
theorem PrE.new (h : PrE w0 w base tb c bn bl rb rs vn vl room Kp d e) (v : Array Value) (t : TypeId) : PrE w0 (w.alloc (.cells v t)) base tb c bn bl rb rs vn vl room ((w.heap.size, .cells v t (0, 0)) :: Kp) d e := by
  obtain ⟨lv, xl, xw, h⟩ := h
  have h' := h.below ((Below.refl _ _).alloc (Nat.le_refl _) (.cells v t))
  refine ⟨lv, xl, xw, h'.tab, h'.ref, h'.sep, fun p hp => ?_, h'.bel, h'.low⟩
  rcases List.mem_cons.1 hp with rfl | hp
  · exact ⟨heap_alloc_new _ _, h.ref.top.lt, fun e => by have := (h.tab.own.lt _ e).2; omega, fun e => by have := (h.ref.own.lt _ e).2; omega⟩
  · exact h'.keep p hp

theorem PrE.less (h : PrE w0 w base tb c bn bl rb rs vn vl room Kp d e) {Kp' : List (Nat × Obj)} (hs : ∀ p ∈ Kp', p ∈ Kp) : PrE w0 w base tb c bn bl rb rs vn vl room Kp' d e := by
  obtain ⟨lv, xl, xw, h⟩ := h
  exact ⟨lv, xl, xw, h.tab, h.ref, h.sep, fun p hp => h.keep p (hs p hp), h.bel, h.low⟩

theorem Pr.real {S : Nat → Prop} {lv' : Value} {d' : Tb} (h : Pr w0 w base tb c bn bl rb rs vn vl room Kp lv xl xw d e) (hT : IsTab w' base tb c bn bl vn vl lv' d'.n room d'.ts d'.R) (hF : Frm S w w')
    (hS : ∀ k, S k → k = tb ∨ some k = lv.ownBlock ∨ (0 < room ∧ (k = bn ∨ k = bl))) (hb : lv'.ownBlock = lv.ownBlock ∨ ∃ g, w.heap.size ≤ g ∧ lv'.ownBlock = some g) :
    Pr w0 w' base tb c bn bl rb rs vn vl room Kp lv' xl xw d' e := by
  obtain ⟨l1, l2, l3, l4, l5⟩ := h.low
  obtain ⟨t1, t2, t3, t4⟩ := h.tab.low
  have hr := h.ref.low
  have hge : ∀ k, base ≤ k → some k ≠ lv.ownBlock → ¬ S k := fun k hk hne hs => by
    rcases hS k hs with e | e | ⟨h0, e⟩
    · omega
    · exact hne e
    · have := h.tab.apart h0
      rcases e with e | e <;> omega
  refine ⟨hT, h.ref.of_frm hF (hge rb l1 (fun e => (h.sep rb e.symm).1 rfl)) (fun g hg => ?_), fun g hg => ?_, fun p hp => ?_, h.bel.trans (hF.below h.bel.size fun k hk hs => ?_), h.low⟩
  · rcases hg with hg | hg
    · have := (h.ref.own.lt g hg).1
      exact hge g (by omega) (fun e => (h.sep g e.symm).2.1 hg)
    · have := (h.ref.wts.lt g hg).1
      exact hge g (by omega) (fun e => (h.sep g e.symm).2.2 hg)
  · rcases hb with e | ⟨g', h1, e⟩
    · exact h.sep g (by rw [← e]; exact hg)
    · rw [e] at hg
      have e2 := Option.some.inj hg
      refine ⟨by omega, fun h2 => ?_, fun h2 => ?_⟩
      · have := (h.ref.own.lt g h2).2; omega
      · have := (h.ref.wts.lt g h2).2; omega
  · obtain ⟨k1, k2, k3, k4⟩ := h.keep p hp
    have hlt := (Array.getElem?_eq_some_iff.1 k1).1
    refine ⟨(hF.block p.1 hlt (hge p.1 (by omega) (fun e => k3 e.symm))).trans k1, k2, fun e => ?_, k4⟩
    rcases hb with e' | ⟨g', h1, e'⟩
    · exact k3 (by rw [← e']; exact e)
    · rw [e'] at e
      have e2 := Option.some.inj e
      omega
  · rcases hS k hs with e | e | ⟨h0, e⟩
    · omega
    · have := (h.tab.own.lt k e.symm).1; omega
    · rcases e with e | e <;> omega

theorem Pr.refr {xl' xw' : Value} {e' : Rb} (h : Pr w0 w base tb c bn bl rb rs vn vl room Kp lv xl xw d e) (hR : IsRef w' rb rs xl' xw' room e') (hF : Frm (RefS rb xl) w w')
    (hl : xl'.ownBlock = xl.ownBlock ∨ ∃ g, w.heap.size ≤ g ∧ xl'.ownBlock = some g) (hw : ∀ g, xw'.ownBlock = some g → xw.ownBlock = some g ∨ w.heap.size ≤ g) :
    Pr w0 w' base tb c bn bl rb rs vn vl room Kp lv xl' xw' d e' := by
  obtain ⟨l1, l2, l3, l4, l5⟩ := h.low
  have hr := h.ref.low
  refine ⟨h.tab.of_frm hF (fun k hk hs => ?_) (fun g hg hs => ?_), hR, fun g hg => ⟨(h.sep g hg).1, fun h2 => ?_, fun h2 => ?_⟩, fun p hp => ?_, h.bel.trans (hF.below h.bel.size fun k hk hs => ?_), h.low⟩
  · rcases hs with e | e
    · omega
    · have := (h.ref.own.lt k e.symm).1; omega
  · rcases hs with e | e
    · exact (h.sep g hg).1 e
    · exact (h.sep g hg).2.1 e.symm
  · have hlt := (h.tab.own.lt g hg).2
    rcases hl with e | ⟨g', h1, e⟩
    · exact (h.sep g hg).2.1 (by rw [← e]; exact h2)
    · rw [e] at h2
      have := Option.some.inj h2
      omega
  · have hlt := (h.tab.own.lt g hg).2
    rcases hw g h2 with e | e
    · exact (h.sep g hg).2.2 e
    · omega
  · obtain ⟨k1, k2, k3, k4⟩ := h.keep p hp
    have hlt := (Array.getElem?_eq_some_iff.1 k1).1
    refine ⟨(hF.block p.1 hlt (fun hs => ?_)).trans k1, k2, k3, fun e => ?_⟩
    · rcases hs with e | e
      · omega
      · exact k4 e.symm
    · rcases hl with e' | ⟨g', h1, e'⟩
      · exact k4 (by rw [← e']; exact e)
      · rw [e'] at e
        have e2 := Option.some.inj e
        omega
  · rcases hs with e | e
    · omega
    · have := (h.ref.own.lt k e.symm).1; omega
end
end Go.Proofs.Ytedhhohnbekelaa
