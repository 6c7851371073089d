/- Each call, in the face of both tables. No condition. -/
import Derived.Test.YtedhhohnbekelaaTg
namespace Go.Proofs.Ytedhhohnbekelaa
open Go.RowKit Go.Deep

/-- A list in memory that is kept. -/
def Kept (w : World) (v : Value) (l : List Nat) (Kp : List (Nat × Obj)) : Prop := (∃ B, w.ownsRow B 3 1 v l.length (intsL l)) ∧ ∀ g, v.ownBlock = some g → ∃ o, (g, o) ∈ Kp ∧ w.heap[g]? = some o

section
variable {w0 w w' : World} {base tb c bn bl rb rs room n : Nat} {vn vl lv xl xw : Value} {Kp : List (Nat × Obj)} {d : Tb} {e : Rb} {ts : Nat → Tk} {R : Nat → List Nat}

theorem TJoin_zero (h : IsTab w base tb c bn bl vn vl lv n room ts R) (h0 : n = 0) (id on : Int) : Calls Try.prog 10 #[.pointer (some ⟨tb, 0, none⟩), .int .i64 id, .int .i64 on] w fun r w' => r = .returned (.int .i64 3) ∧ w = w' := by
  have HI := Lib.hid (TIs_any h id)
  rw [isB_no (by omega)] at HI
  clear h
  go_enter Try.func10, Try.ntmps10
  go_wp2_with fail
  refine HI.out.mono ?_
  rintro r w' ⟨rfl, rfl⟩
  go_wp2_with fail
  go_ret
  exact ⟨rfl, rfl⟩

theorem TJoined_zero (h : IsTab w base tb c bn bl vn vl lv n room ts R) (h0 : n = 0) (on : Int) : Calls Try.prog 20 #[.pointer (some ⟨tb, 0, none⟩), .int .i64 on] w fun r w' => r = .returned (.slice none 0 0) ∧ w = w' := by
  have HI := Lib.hid (TIs_any h on)
  rw [isB_no (by omega)] at HI
  clear h
  go_enter Try.func20, Try.ntmps20
  go_wp2_with fail
  refine HI.out.mono ?_
  rintro r w' ⟨rfl, rfl⟩
  go_wp2_with fail
  go_ret
  exact ⟨rfl, rfl⟩

theorem PAdd (h : PrE w0 w base tb c bn bl rb rs vn vl room Kp d e) (t : Tk) : Calls Try.prog 8 #[.pointer (some ⟨tb, 0, none⟩), tkV t] w
    fun r w' => r = .returned (.tuple #[.int .i64 (addD d.n room d.ts t).1, .int .i64 (addD d.n room d.ts t).2.1]) ∧ PrE w0 w' base tb c bn bl rb rs vn vl room Kp ⟨(addD d.n room d.ts t).2.2.1, (addD d.n room d.ts t).2.2.2, d.R⟩ e := by
  obtain ⟨lv, xl, xw, h⟩ := h
  refine (TAdd_any h.tab t).mono ?_
  rintro r w' ⟨rfl, lv', hT, hF, hb⟩
  exact ⟨rfl, lv', xl, xw, h.real hT hF (fun k hs => hs.elim .inl (fun e => .inr (.inl e))) hb⟩

theorem PSet (h : PrE w0 w base tb c bn bl rb rs vn vl room Kp d e) (i : Int) (t : Tk) : Calls Try.prog 9 #[.pointer (some ⟨tb, 0, none⟩), .int .i64 i, tkV t] w
    fun r w' => r = .returned (.int .i64 (setD d.n d.ts i t).1) ∧ PrE w0 w' base tb c bn bl rb rs vn vl room Kp ⟨d.n, (setD d.n d.ts i t).2, d.R⟩ e := by
  obtain ⟨lv, xl, xw, h⟩ := h
  refine (TSet_any h.tab i t).mono ?_
  rintro r w' ⟨rfl, hT, hF⟩
  exact ⟨rfl, lv, xl, xw, h.real hT hF (fun k hs => hs.elim .inl (fun e => .inr (.inl e))) (.inl rfl)⟩

theorem PJoin (h : PrE w0 w base tb c bn bl rb rs vn vl room Kp d e) (i j : Int) : Calls Try.prog 10 #[.pointer (some ⟨tb, 0, none⟩), .int .i64 i, .int .i64 j] w
    fun r w' => r = .returned (.int .i64 (joinD d.n room d.ts d.R i j).1) ∧ PrE w0 w' base tb c bn bl rb rs vn vl room Kp ⟨d.n, d.ts, (joinD d.n room d.ts d.R i j).2⟩ e := by
  obtain ⟨lv, xl, xw, h⟩ := h
  by_cases h0 : d.n = 0
  · have e1 : joinD d.n room d.ts d.R i j = (3, d.R) := by unfold joinD; rw [if_pos (by omega)]
    rw [e1]
    refine (TJoin_zero h.tab h0 i j).mono ?_
    rintro r w' ⟨rfl, rfl⟩
    exact ⟨rfl, lv, xl, xw, h⟩
  · have hm := h.tab.most
    refine (TJoin_any h.tab i j).mono ?_
    rintro r w' ⟨rfl, hT, hF⟩
    exact ⟨rfl, lv, xl, xw, h.real (d' := ⟨d.n, d.ts, (joinD d.n room d.ts d.R i j).2⟩) hT hF (fun k hs => .inr (.inr ⟨by omega, hs⟩)) (.inl rfl)⟩

theorem QAdd (h : PrE w0 w base tb c bn bl rb rs vn vl room Kp d e) (t : Tk) : Calls Try.prog 31 #[.pointer (some ⟨rb, 0, none⟩), tkV t] w
    fun r w' => r = .returned (.tuple #[.int .i64 (addD e.n room e.ts t).1, .int .i64 (addD e.n room e.ts t).2.1]) ∧ PrE w0 w' base tb c bn bl rb rs vn vl room Kp d ⟨(addD e.n room e.ts t).2.2.1, (addD e.n room e.ts t).2.2.2, e.W⟩ := by
  obtain ⟨lv, xl, xw, h⟩ := h
  refine (RAdd_any h.ref t).mono ?_
  rintro r w' ⟨rfl, xl', hT, hF, hb⟩
  exact ⟨rfl, lv, xl', xw, h.refr hT hF hb (fun g hg => .inl hg)⟩

theorem QSet (h : PrE w0 w base tb c bn bl rb rs vn vl room Kp d e) (i : Int) (t : Tk) : Calls Try.prog 28 #[.pointer (some ⟨rb, 0, none⟩), .int .i64 i, tkV t] w
    fun r w' => r = .returned (.int .i64 (setD e.n e.ts i t).1) ∧ PrE w0 w' base tb c bn bl rb rs vn vl room Kp d ⟨e.n, (setD e.n e.ts i t).2, e.W⟩ := by
  obtain ⟨lv, xl, xw, h⟩ := h
  refine (RSet_any h.ref i t).mono ?_
  rintro r w' ⟨rfl, hT, hF⟩
  exact ⟨rfl, lv, xl, xw, h.refr hT hF (.inl rfl) (fun g hg => .inl hg)⟩

theorem QJoin (h : PrE w0 w base tb c bn bl rb rs vn vl room Kp d e) (i j : Int) (h100 : e.W.length < 100) : Calls Try.prog 29 #[.pointer (some ⟨rb, 0, none⟩), .int .i64 i, .int .i64 j] w
    fun r w' => r = .returned (.int .i64 (rJoinD e.n e.ts e.W i j).1) ∧ PrE w0 w' base tb c bn bl rb rs vn vl room Kp d ⟨e.n, e.ts, (rJoinD e.n e.ts e.W i j).2⟩ := by
  obtain ⟨lv, xl, xw, h⟩ := h
  refine (RJoin_any h.ref i j h100).mono ?_
  rintro r w' ⟨rfl, xw', hT, hF, hb⟩
  exact ⟨rfl, lv, xl, xw', h.refr hT hF (.inl rfl) (fun g hg => by
    rcases hb with e | ⟨g', h1, e⟩
    · exact .inl (by rw [← e]; exact hg)
    · rw [e] at hg
      exact .inr (by have := Option.some.inj hg; omega))⟩

/-- A row of the call's own is kept from now on. -/
theorem Pr.row {v : Value} {l : List Nat} {B : Nat} (h : Pr w0 w' base tb c bn bl rb rs vn vl room Kp lv xl xw d e) (ho : w'.ownsRow B 3 1 v l.length (intsL l)) (hB : w.heap.size ≤ B) (hrb : rb < w.heap.size)
    (h1 : ∀ g, lv.ownBlock = some g → g < w.heap.size) (h2 : ∀ g, xl.ownBlock = some g → g < w.heap.size) :
    ∃ Kp', PrE w0 w' base tb c bn bl rb rs vn vl room Kp' d e ∧ Kept w' v l Kp' ∧ ∀ p ∈ Kp, p ∈ Kp' := by
  cases hv : v.ownBlock with
  | none => exact ⟨Kp, ⟨lv, xl, xw, h⟩, ⟨⟨B, ho⟩, fun g hg => by rw [hv] at hg; cases hg⟩, fun p hp => hp⟩
  | some g =>
    obtain ⟨a1, a2⟩ := ho.lt g hv
    refine ⟨(g, w'.heap[g]'a2) :: Kp, ⟨lv, xl, xw, h.tab, h.ref, h.sep, fun p hp => ?_, h.bel, h.low⟩, ⟨⟨B, ho⟩, fun g' hg' => ?_⟩, fun p hp => List.mem_cons_of_mem _ hp⟩
    · rcases List.mem_cons.1 hp with rfl | hp
      · exact ⟨Array.getElem?_eq_getElem a2, by simp only; omega, fun e => by have := h1 _ e; simp only at this; omega, fun e => by have := h2 _ e; simp only at this; omega⟩
      · exact h.keep p hp
    · rw [hv] at hg'
      cases hg'
      exact ⟨_, List.mem_cons_self, Array.getElem?_eq_getElem a2⟩

theorem Kept.mono {v : Value} {l : List Nat} {Kp' : List (Nat × Obj)} (hk : Kept w v l Kp) (h : PrE w0 w' base tb c bn bl rb rs vn vl room Kp' d e) (hs : ∀ p ∈ Kp, p ∈ Kp') : Kept w' v l Kp' := by
  obtain ⟨⟨B, ho⟩, hv⟩ := hk
  refine ⟨⟨B, own_of_heap ho fun g hg => ?_⟩, fun g hg => ?_⟩
  · obtain ⟨o, h1, h2⟩ := hv g hg
    exact (h.kept (hs _ h1)).trans h2.symm
  · obtain ⟨o, h1, h2⟩ := hv g hg
    exact ⟨o, hs _ h1, h.kept (hs _ h1)⟩
theorem Kept.sl {v : Value} {l : List Nat} (hk : Kept w v l Kp) : SlL w v l := by
  obtain ⟨⟨B, ho⟩, _⟩ := hk
  exact SlL.own ho

def RowTo (w0 : World) (base tb c bn bl rb rs : Nat) (vn vl : Value) (room : Nat) (Kp : List (Nat × Obj)) (d : Tb) (e : Rb) (l : List Nat) (r : Ending) (w' : World) : Prop :=
  ∃ v Kp', r = .returned v ∧ PrE w0 w' base tb c bn bl rb rs vn vl room Kp' d e ∧ Kept w' v l Kp' ∧ ∀ p ∈ Kp, p ∈ Kp'

theorem PJoined (h : PrE w0 w base tb c bn bl rb rs vn vl room Kp d e) (j : Int) : Calls Try.prog 20 #[.pointer (some ⟨tb, 0, none⟩), .int .i64 j] w
    (RowTo w0 base tb c bn bl rb rs vn vl room Kp ⟨d.n, d.ts, joinedR d.n d.R j⟩ e (joinedL d.n d.R j)) := by
  obtain ⟨lv, xl, xw, h⟩ := h
  by_cases h0 : d.n = 0
  · have e1 : joinedR d.n d.R j = d.R := by unfold joinedR; rw [if_neg (by omega)]
    have e2 : joinedL d.n d.R j = [] := by unfold joinedL; rw [if_neg (by omega)]
    rw [e1, e2]
    refine (TJoined_zero h.tab h0 j).mono ?_
    rintro r w' ⟨rfl, rfl⟩
    exact ⟨_, Kp, rfl, ⟨lv, xl, xw, h⟩, ⟨⟨0, World.ownsRow_nil _ _ _ _⟩, fun g hg => by cases hg⟩, fun p hp => hp⟩
  · have hm := h.tab.most
    refine (TJoined_any h.tab j).mono ?_
    rintro r w' ⟨v, rfl, ho, hT, hF⟩
    have h' := h.real (d' := ⟨d.n, d.ts, joinedR d.n d.R j⟩) hT hF (fun k hs => .inr (.inr ⟨by omega, hs⟩)) (.inl rfl)
    obtain ⟨Kp', h1, h2, h3⟩ := h'.row (w := w) ho (Nat.le_refl _) h.ref.top.lt (fun g hg => (h.tab.own.lt g hg).2) (fun g hg => (h.ref.own.lt g hg).2)
    exact ⟨v, Kp', rfl, h1, h2, h3⟩

theorem QJoined (h : PrE w0 w base tb c bn bl rb rs vn vl room Kp d e) (j : Int) : Calls Try.prog 30 #[.pointer (some ⟨rb, 0, none⟩), .int .i64 j] w
    (RowTo w0 base tb c bn bl rb rs vn vl room Kp d ⟨e.n, e.ts, leftL e.W j⟩ (outL e.W j)) := by
  obtain ⟨lv, xl, xw, h⟩ := h
  refine (RJoined_any h.ref j).mono ?_
  rintro r w' ⟨v, wv', rfl, ho, hR, hF, hw⟩
  have h' := h.refr hR hF (.inl rfl) (fun g hg => .inr (hw g hg))
  obtain ⟨Kp', h1, h2, h3⟩ := h'.row (w := w) ho (Nat.le_refl _) h.ref.top.lt (fun g hg => (h.tab.own.lt g hg).2) (fun g hg => (h.ref.own.lt g hg).2)
  exact ⟨v, Kp', rfl, h1, h2, h3⟩
end
end Go.Proofs.Ytedhhohnbekelaa
