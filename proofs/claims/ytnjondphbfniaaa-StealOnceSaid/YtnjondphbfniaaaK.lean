/- Contracts of the document's row (package pinfoldref28): Step. No condition. -/
import Derived.Test.YtnjondphbfniaaaJ
namespace Go.Proofs.Ytnjondphbfniaaa
open Go.RowKit

def encRf (r : Dq) (sv pv : Value) : Nat → Value
  | 0 => .int .i64 r.top
  | 1 => .int .i64 r.bottom
  | 2 => .int .i64 r.room
  | 3 => sv
  | _ => pv

/-- The document's row in memory. -/
structure IsRf (w : World) (rb sb qb rn cs cq : Nat) (r : Dq) : Prop where
  top : Blk w rb 35 5 (encRf r (.slice (some ⟨sb, 0, none⟩) rn cs) (.slice (some ⟨qb, 0, none⟩) r.n cq))
  slots : Blk w sb 3 rn (fun o => .int .i64 (r.slots o))
  parts : Blk w qb 38 (r.n * 6) (encP r.ps)
  room : r.room = rn
  apart : rb ≠ sb ∧ rb ≠ qb ∧ sb ≠ qb

def Rfb (rb sb qb : Nat) : Nat → Prop := fun k => k = rb ∨ k = sb ∨ k = qb

section
variable {w w' : World} {rb sb qb rn cs cq : Nat} {r : Dq}

theorem IsRf.c0 (h : IsRf w rb sb qb rn cs cq r) : w.cell? ⟨rb, 0, none⟩ = some (.int .i64 r.top) := h.top.cell (o := 0) (by omega)
theorem IsRf.c1 (h : IsRf w rb sb qb rn cs cq r) : w.cell? ⟨rb, 1, none⟩ = some (.int .i64 r.bottom) := h.top.cell (o := 1) (by omega)
theorem IsRf.c2 (h : IsRf w rb sb qb rn cs cq r) : w.cell? ⟨rb, 2, none⟩ = some (.int .i64 r.room) := h.top.cell (o := 2) (by omega)
theorem IsRf.c3 (h : IsRf w rb sb qb rn cs cq r) : w.cell? ⟨rb, 3, none⟩ = some (.slice (some ⟨sb, 0, none⟩) rn cs) := h.top.cell (o := 3) (by omega)
theorem IsRf.c4 (h : IsRf w rb sb qb rn cs cq r) : w.cell? ⟨rb, 4, none⟩ = some (.slice (some ⟨qb, 0, none⟩) r.n cq) := h.top.cell (o := 4) (by omega)
theorem IsRf.slot (h : IsRf w rb sb qb rn cs cq r) {i : Nat} (hi : i < rn) : w.cell? ⟨sb, i, none⟩ = some (.int .i64 (r.slots i)) := h.slots.cell hi
theorem IsRf.party (h : IsRf w rb sb qb rn cs cq r) {i : Nat} (hi : i < r.n) :
    w.cell? ⟨qb, i * 6, none⟩ = some (.int .i64 (r.ps i).call) ∧ w.cell? ⟨qb, i * 6 + 1, none⟩ = some (.int .i64 (r.ps i).step) ∧ w.cell? ⟨qb, i * 6 + 2, none⟩ = some (.int .i64 (r.ps i).b) ∧
    w.cell? ⟨qb, i * 6 + 3, none⟩ = some (.int .i64 (r.ps i).t) ∧ w.cell? ⟨qb, i * 6 + 4, none⟩ = some (.int .i64 (r.ps i).x) ∧ w.cell? ⟨qb, i * 6 + 5, none⟩ = some (.bool (r.ps i).won) := by
  have k : ∀ j, j < 6 → w.cell? ⟨qb, i * 6 + j, none⟩ = some ((r.ps i).cell j) := fun j hj => (h.parts.cell (o := i * 6 + j) (by omega)).trans (congrArg some (encP_at r.ps i hj))
  exact ⟨k 0 (by omega), k 1 (by omega), k 2 (by omega), k 3 (by omega), k 4 (by omega), k 5 (by omega)⟩

theorem IsRf.of_frm {S : Nat → Prop} (h : IsRf w rb sb qb rn cs cq r) (hF : Frm S w w') (h1 : ¬ S rb) (h2 : ¬ S sb) (h3 : ¬ S qb) : IsRf w' rb sb qb rn cs cq r :=
  ⟨hF.blk h.top h1, hF.blk h.slots h2, hF.blk h.parts h3, h.room, h.apart⟩
theorem IsRf.drew (h : IsRf w rb sb qb rn cs cq r) : IsRf w.drew rb sb qb rn cs cq r := h.of_frm (S := fun _ => False) (Frm.refl _ _).drew (fun h => h) (fun h => h) (fun h => h)
theorem IsRf.drewN (h : IsRf w rb sb qb rn cs cq r) (k : Nat) : IsRf (w.drewN k) rb sb qb rn cs cq r := h.of_frm (S := fun _ => False) ((Frm.refl _ _).drewN k) (fun h => h) (fun h => h) (fun h => h)
theorem IsRf.at (h : IsRf w rb sb qb rn cs cq r) {A : Nat} (hA : A ≠ rb ∧ A ≠ sb ∧ A ≠ qb) (o : Nat) (v : Value) : IsRf (w.setCell ⟨A, o, none⟩ v) rb sb qb rn cs cq r :=
  h.of_frm (S := fun k => k = A) ((Frm.refl (fun k => k = A) w).setCell (p := ⟨A, o, none⟩) (fun _ => rfl) v) (fun e => hA.1 e.symm) (fun e => hA.2.1 e.symm) (fun e => hA.2.2 e.symm)

theorem IsRf.setTop (h : IsRf w rb sb qb rn cs cq r) (v : Int) : IsRf (w.setCell ⟨rb, 0, none⟩ (.int .i64 v)) rb sb qb rn cs cq (r.setT v) := by
  refine ⟨(h.top.set 0 _).congr fun o ho => ?_, h.slots.other (Ne.symm h.apart.1) _ _, h.parts.other (Ne.symm h.apart.2.1) _ _, h.room, h.apart⟩
  match o, ho with
  | 0, _ => rfl
  | 1, _ => rfl
  | 2, _ => rfl
  | 3, _ => rfl
  | 4, _ => rfl
theorem IsRf.setBottom (h : IsRf w rb sb qb rn cs cq r) (v : Int) : IsRf (w.setCell ⟨rb, 1, none⟩ (.int .i64 v)) rb sb qb rn cs cq (r.setB v) := by
  refine ⟨(h.top.set 1 _).congr fun o ho => ?_, h.slots.other (Ne.symm h.apart.1) _ _, h.parts.other (Ne.symm h.apart.2.1) _ _, h.room, h.apart⟩
  match o, ho with
  | 0, _ => rfl
  | 1, _ => rfl
  | 2, _ => rfl
  | 3, _ => rfl
  | 4, _ => rfl
theorem IsRf.setSlot (h : IsRf w rb sb qb rn cs cq r) {i : Nat} (_hi : i < rn) (v : Int) : IsRf (w.setCell ⟨sb, i, none⟩ (.int .i64 v)) rb sb qb rn cs cq (r.setS i v) := by
  refine ⟨(h.top.other h.apart.1 _ _), (h.slots.set i _).congr fun o ho => ?_, h.parts.other (Ne.symm h.apart.2.2) _ _, h.room, h.apart⟩
  by_cases e : o = i
  · subst e; rw [upd_same]; simp [Dq.setS]
  · rw [upd_other _ _ e]; simp [Dq.setS, e]
theorem IsRf.put6 (h : IsRf w rb sb qb rn cs cq r) {i : Nat} (hi : i < r.n) (p : Pt) :
    IsRf ((((((w.setCell ⟨qb, i * 6, none⟩ (.int .i64 p.call)).setCell ⟨qb, i * 6 + 1, none⟩ (.int .i64 p.step)).setCell ⟨qb, i * 6 + 2, none⟩ (.int .i64 p.b)).setCell ⟨qb, i * 6 + 3, none⟩ (.int .i64 p.t)).setCell ⟨qb, i * 6 + 4, none⟩ (.int .i64 p.x)).setCell ⟨qb, i * 6 + 5, none⟩ (.bool p.won)) rb sb qb rn cs cq (r.setP i p) := by
  obtain ⟨a1, a2, a3⟩ := h.apart
  refine ⟨(((((h.top.other a2 _ _).other a2 _ _).other a2 _ _).other a2 _ _).other a2 _ _).other a2 _ _, (((((h.slots.other a3 _ _).other a3 _ _).other a3 _ _).other a3 _ _).other a3 _ _).other a3 _ _, ?_, h.room, h.apart⟩
  refine ((((((h.parts.set _ _).set _ _).set _ _).set _ _).set _ _).set _ _).congr fun o ho => ?_
  unfold encP
  by_cases e : o / 6 = i
  · have hk : o % 6 = 0 ∨ o % 6 = 1 ∨ o % 6 = 2 ∨ o % 6 = 3 ∨ o % 6 = 4 ∨ o % 6 = 5 := by omega
    rcases hk with hk | hk | hk | hk | hk | hk <;> obtain rfl : o = i * 6 + _ := (by omega : o = i * 6 + o % 6).trans (by rw [hk]) <;> rw [hk] <;> simp [upd, Dq.setP, e, Pt.cell]
  · have h0 : ∀ j, j < 6 → ¬ o = i * 6 + j := fun j hj => by omega
    simp only [upd, h0 5 (by omega), h0 4 (by omega), h0 3 (by omega), h0 2 (by omega), h0 1 (by omega), show ¬ o = i * 6 from h0 0 (by omega), if_false, Dq.setP, e]
end

theorem Frm.rf {a w : World} {rb sb qb : Nat} (h : Frm (Rfb rb sb qb) a w) (o : Nat) (v : Value) : Frm (Rfb rb sb qb) a (w.setCell ⟨rb, o, none⟩ v) := h.setCell (p := ⟨rb, o, none⟩) (fun _ => .inl rfl) v
theorem Frm.sf {a w : World} {rb sb qb : Nat} (h : Frm (Rfb rb sb qb) a w) (o : Nat) (v : Value) : Frm (Rfb rb sb qb) a (w.setCell ⟨sb, o, none⟩ v) := h.setCell (p := ⟨sb, o, none⟩) (fun _ => .inr (.inl rfl)) v
theorem Frm.qf {a w : World} {rb sb qb : Nat} (h : Frm (Rfb rb sb qb) a w) (o : Nat) (v : Value) : Frm (Rfb rb sb qb) a (w.setCell ⟨qb, o, none⟩ v) := h.setCell (p := ⟨qb, o, none⟩) (fun _ => .inr (.inr rfl)) v
theorem Frm.af {S : Nat → Prop} {a w : World} {A : Nat} (h : Frm S a w) (hA : a.heap.size ≤ A) (o : Nat) (v : Value) : Frm S a (w.setCell ⟨A, o, none⟩ v) := h.setCell (p := ⟨A, o, none⟩) (fun hl => absurd hl (Nat.not_lt.2 hA)) v

/-- What a step of the document's row needs of its numbers. -/
structure ROk (r : Dq) (i : Nat) (K : Int) : Prop where
  n : i < r.n ∧ r.n ≤ 9
  room : 1 ≤ r.room ∧ r.room ≤ 64
  top : 0 ≤ r.top ∧ r.top ≤ K
  bottom : -1 ≤ r.bottom ∧ r.bottom ≤ K
  call : 1 ≤ (r.ps i).call ∧ (r.ps i).call ≤ 3
  step : 1 ≤ (r.ps i).step ∧ (r.ps i).step ≤ 5
  short : (r.ps i).call ≠ 2 → (r.ps i).step ≤ 4
  b : (r.ps i).call ≠ 3 → -1 ≤ (r.ps i).b ∧ (r.ps i).b ≤ K
  t : (r.ps i).call ≠ 1 → 0 ≤ (r.ps i).t ∧ (r.ps i).t ≤ K
  b0 : (r.ps i).call ≠ 3 → (r.ps i).step = 3 → 0 ≤ (r.ps i).b

/-- The cells of the party's copy. -/
def Cp (w : World) (A : Nat) (p : Pt) : Prop := Blk w A 38 6 p.cell

theorem Cp.cells {w : World} {A : Nat} {p : Pt} (h : Cp w A p) : w.cell? ⟨A, 0, none⟩ = some (.int .i64 p.call) ∧ w.cell? ⟨A, 1, none⟩ = some (.int .i64 p.step) ∧ w.cell? ⟨A, 2, none⟩ = some (.int .i64 p.b) ∧
    w.cell? ⟨A, 3, none⟩ = some (.int .i64 p.t) ∧ w.cell? ⟨A, 4, none⟩ = some (.int .i64 p.x) ∧ w.cell? ⟨A, 5, none⟩ = some (.bool p.won) :=
  ⟨Blk.cell h (o := 0) (by omega), Blk.cell h (o := 1) (by omega), Blk.cell h (o := 2) (by omega), Blk.cell h (o := 3) (by omega), Blk.cell h (o := 4) (by omega), Blk.cell h (o := 5) (by omega)⟩
theorem Cp.frozen {w : World} {A : Nat} {p : Pt} (h : Cp w A p) (o : Nat) : w.frozen? ⟨A, o, none⟩ = false := Blk.frozen h o
theorem Cp.put {w : World} {A : Nat} {p : Pt} (h : Cp w A p) (j : Nat) (q : Pt) (hq : ∀ k, k < 6 → k ≠ j → q.cell k = p.cell k) : Cp (w.setCell ⟨A, j, none⟩ (q.cell j)) A q := by
  refine (Blk.set h j _).congr fun o ho => ?_
  by_cases e : o = j
  · subst e; rw [upd_same]
  · rw [upd_other _ _ e]; exact (hq o ho e).symm
theorem Cp.other {w : World} {A B : Nat} {p : Pt} (h : Cp w A p) (hB : A ≠ B) (o : Nat) (v : Value) : Cp (w.setCell ⟨B, o, none⟩ v) A p := Blk.other h hB o v
theorem Cp.drewN {w : World} {A : Nat} {p : Pt} (h : Cp w A p) (k : Nat) : Cp (w.drewN k) A p := Blk.drewN h k
theorem Cp.drew {w : World} {A : Nat} {p : Pt} (h : Cp w A p) : Cp w.drew A p := Blk.drew h
theorem Cp.setB {w : World} {A : Nat} {p : Pt} (h : Cp w A p) (v : Int) : Cp (w.setCell ⟨A, 2, none⟩ (.int .i64 v)) A { p with b := v } :=
  h.put 2 { p with b := v } (cell6 (fun _ => rfl) (fun _ => rfl) (fun e => absurd rfl e) (fun _ => rfl) (fun _ => rfl) (fun _ => rfl))
theorem Cp.setT {w : World} {A : Nat} {p : Pt} (h : Cp w A p) (v : Int) : Cp (w.setCell ⟨A, 3, none⟩ (.int .i64 v)) A { p with t := v } :=
  h.put 3 { p with t := v } (cell6 (fun _ => rfl) (fun _ => rfl) (fun _ => rfl) (fun e => absurd rfl e) (fun _ => rfl) (fun _ => rfl))
theorem Cp.setX {w : World} {A : Nat} {p : Pt} (h : Cp w A p) (v : Int) : Cp (w.setCell ⟨A, 4, none⟩ (.int .i64 v)) A { p with x := v } :=
  h.put 4 { p with x := v } (cell6 (fun _ => rfl) (fun _ => rfl) (fun _ => rfl) (fun _ => rfl) (fun e => absurd rfl e) (fun _ => rfl))
theorem Cp.setW {w : World} {A : Nat} {p : Pt} (h : Cp w A p) (v : Bool) : Cp (w.setCell ⟨A, 5, none⟩ (.bool v)) A { p with won := v } :=
  h.put 5 { p with won := v } (cell6 (fun _ => rfl) (fun _ => rfl) (fun _ => rfl) (fun _ => rfl) (fun _ => rfl) (fun e => absurd rfl e))
theorem Cp.setS {w : World} {A : Nat} {p : Pt} (h : Cp w A p) (v : Int) : Cp (w.setCell ⟨A, 1, none⟩ (.int .i64 v)) A { p with step := v } :=
  h.put 1 { p with step := v } (cell6 (fun _ => rfl) (fun e => absurd rfl e) (fun _ => rfl) (fun _ => rfl) (fun _ => rfl) (fun _ => rfl))
theorem Cp.none {w : World} {A : Nat} {p : Pt} (h : Cp w A p) : Cp ((((((w.setCell ⟨A, 0, none⟩ (.int .i64 0)).setCell ⟨A, 1, none⟩ (.int .i64 0)).setCell ⟨A, 2, none⟩ (.int .i64 0)).setCell ⟨A, 3, none⟩ (.int .i64 0)).setCell ⟨A, 4, none⟩ (.int .i64 0)).setCell ⟨A, 5, none⟩ (.bool false)) A Pt.none := by
  refine ((((((Blk.set h _ _).set _ _).set _ _).set _ _).set _ _).set _ _).congr fun o ho => ?_
  match o, ho with
  | 0, _ => rfl
  | 1, _ => rfl
  | 2, _ => rfl
  | 3, _ => rfl
  | 4, _ => rfl
  | 5, _ => rfl
end Go.Proofs.Ytnjondphbfniaaa
