/- Contracts of the rows' own functions (package chain), over blocks told by functions. No condition. -/
import Derived.Test.YtedhhohnbekelaaRows
import Derived.Test.YtedhhohnbekelaaB
import Derived.Test.YtedhhohnbekelaaM
import Derived.WalkSpells
import Derived.Deep.CutBlock
import Derived.Deep.DeepCutAuto
namespace Go.Proofs.Ytedhhohnbekelaa
open Go.RowKit

def Nd.cell (p : Nd) : Nat → Value
  | 0 => .int .i64 p.list
  | 1 => .int .i64 p.ahead
  | _ => .int .i64 p.behind
def Rw.cell (p : Rw) : Nat → Value
  | 0 => .int .i64 p.first
  | 1 => .int .i64 p.last
  | _ => .int .i64 p.n

def encN (f : Nat → Nd) (o : Nat) : Value := (f (o / 3)).cell (o % 3)
def encR (f : Nat → Rw) (o : Nat) : Value := (f (o / 3)).cell (o % 3)

theorem encN_at (f : Nat → Nd) (i : Nat) {j : Nat} (hj : j < 3) : encN f (i * 3 + j) = (f i).cell j := by
  unfold encN
  rw [show (i * 3 + j) / 3 = i by omega, show (i * 3 + j) % 3 = j by omega]
theorem encR_at (f : Nat → Rw) (i : Nat) {j : Nat} (hj : j < 3) : encR f (i * 3 + j) = (f i).cell j := by
  unfold encR
  rw [show (i * 3 + j) / 3 = i by omega, show (i * 3 + j) % 3 = j by omega]

/-- A slice of n elements at the head of block b. -/
def SlV (v : Value) (b n : Nat) : Prop := (n = 0 ∧ v = .slice none 0 0) ∨ (0 < n ∧ ∃ cap, v = .slice (some ⟨b, 0, none⟩) n cap)

/-- Rows and nodes in memory. -/
structure IsCh (w : World) (c bn bl : Nat) (vn vl : Value) (s : Ch) : Prop where
  top : Blk w c 72 2 (fun o => if o = 0 then vn else vl)
  sn : SlV vn bn s.N
  sl : SlV vl bl s.M
  nodes : 0 < s.N → Blk w bn 74 (s.N * 3) (encN s.nodes)
  rows : 0 < s.M → Blk w bl 76 (s.M * 3) (encR s.rows)
  apart : c ≠ bn ∧ c ≠ bl ∧ bn ≠ bl
  most : s.N ≤ 4096 ∧ s.M ≤ 4096

/-- What the calls may turn. -/
def Two (bn bl : Nat) : Nat → Prop := fun k => k = bn ∨ k = bl

section
variable {w w' : World} {c bn bl : Nat} {vn vl : Value} {s : Ch}

theorem IsCh.c0 (h : IsCh w c bn bl vn vl s) : w.cell? ⟨c, 0, none⟩ = some vn := h.top.cell (o := 0) (by omega)
theorem IsCh.c1 (h : IsCh w c bn bl vn vl s) : w.cell? ⟨c, 1, none⟩ = some vl := h.top.cell (o := 1) (by omega)

theorem IsCh.node (h : IsCh w c bn bl vn vl s) {x : Nat} (hx : x < s.N) :
    w.cell? ⟨bn, x * 3, none⟩ = some (.int .i64 (s.nodes x).list) ∧ w.cell? ⟨bn, x * 3 + 1, none⟩ = some (.int .i64 (s.nodes x).ahead) ∧ w.cell? ⟨bn, x * 3 + 2, none⟩ = some (.int .i64 (s.nodes x).behind) := by
  have hb := h.nodes (by omega)
  exact ⟨(hb.cell (o := x * 3) (by omega)).trans (congrArg some (encN_at s.nodes x (j := 0) (by omega))), (hb.cell (o := x * 3 + 1) (by omega)).trans (congrArg some (encN_at s.nodes x (j := 1) (by omega))),
    (hb.cell (o := x * 3 + 2) (by omega)).trans (congrArg some (encN_at s.nodes x (j := 2) (by omega)))⟩

theorem IsCh.rw (h : IsCh w c bn bl vn vl s) {x : Nat} (hx : x < s.M) :
    w.cell? ⟨bl, x * 3, none⟩ = some (.int .i64 (s.rows x).first) ∧ w.cell? ⟨bl, x * 3 + 1, none⟩ = some (.int .i64 (s.rows x).last) ∧ w.cell? ⟨bl, x * 3 + 2, none⟩ = some (.int .i64 (s.rows x).n) := by
  have hb := h.rows (by omega)
  exact ⟨(hb.cell (o := x * 3) (by omega)).trans (congrArg some (encR_at s.rows x (j := 0) (by omega))), (hb.cell (o := x * 3 + 1) (by omega)).trans (congrArg some (encR_at s.rows x (j := 1) (by omega))),
    (hb.cell (o := x * 3 + 2) (by omega)).trans (congrArg some (encR_at s.rows x (j := 2) (by omega)))⟩

theorem IsCh.fn (h : IsCh w c bn bl vn vl s) (hN : 0 < s.N) (o : Nat) : w.frozen? ⟨bn, o, none⟩ = false := (h.nodes hN).frozen o
theorem IsCh.fl (h : IsCh w c bn bl vn vl s) (hM : 0 < s.M) (o : Nat) : w.frozen? ⟨bl, o, none⟩ = false := (h.rows hM).frozen o

theorem IsCh.setN (h : IsCh w c bn bl vn vl s) {x : Nat} (hx : x < s.N) (j : Nat) (hj : j < 3) (p : Nd) (hp : ∀ k, k < 3 → k ≠ j → p.cell k = (s.nodes x).cell k) :
    IsCh (w.setCell ⟨bn, x * 3 + j, none⟩ (p.cell j)) c bn bl vn vl (s.setN x p) := by
  refine ⟨h.top.other h.apart.1 _ _, h.sn, h.sl, fun hN => ?_, fun hM => (h.rows hM).other (Ne.symm h.apart.2.2) _ _, h.apart, h.most⟩
  refine ((h.nodes hN).set (x * 3 + j) (p.cell j)).congr fun o ho => ?_
  by_cases e : o = x * 3 + j
  · subst e
    rw [upd_same, encN_at _ _ hj]
    simp [Ch.setN]
  · rw [upd_other _ _ e]
    unfold encN
    by_cases e2 : o / 3 = x
    · have : o % 3 ≠ j := by omega
      simp only [Ch.setN, e2, if_true]
      exact (hp _ (by omega) this).symm
    · simp [Ch.setN, e2]

theorem IsCh.setR (h : IsCh w c bn bl vn vl s) {x : Nat} (hx : x < s.M) (j : Nat) (hj : j < 3) (p : Rw) (hp : ∀ k, k < 3 → k ≠ j → p.cell k = (s.rows x).cell k) :
    IsCh (w.setCell ⟨bl, x * 3 + j, none⟩ (p.cell j)) c bn bl vn vl (s.setR x p) := by
  refine ⟨h.top.other h.apart.2.1 _ _, h.sn, h.sl, fun hN => (h.nodes hN).other h.apart.2.2 _ _, fun hM => ?_, h.apart, h.most⟩
  refine ((h.rows hM).set (x * 3 + j) (p.cell j)).congr fun o ho => ?_
  by_cases e : o = x * 3 + j
  · subst e
    rw [upd_same, encR_at _ _ hj]
    simp [Ch.setR]
  · rw [upd_other _ _ e]
    unfold encR
    by_cases e2 : o / 3 = x
    · have : o % 3 ≠ j := by omega
      simp only [Ch.setR, e2, if_true]
      exact (hp _ (by omega) this).symm
    · simp [Ch.setR, e2]

theorem cell3 {P : Nat → Prop} (h0 : P 0) (h1 : P 1) (h2 : P 2) : ∀ k, k < 3 → P k := fun k hk => by
  have : k = 0 ∨ k = 1 ∨ k = 2 := by omega
  rcases this with rfl | rfl | rfl
  · exact h0
  · exact h1
  · exact h2

theorem IsCh.setList (h : IsCh w c bn bl vn vl s) {x : Nat} (hx : x < s.N) (v : Int) : IsCh (w.setCell ⟨bn, x * 3, none⟩ (.int .i64 v)) c bn bl vn vl (s.setN x { s.nodes x with list := v }) :=
  h.setN hx 0 (by omega) { s.nodes x with list := v } (cell3 (fun e => absurd rfl e) (fun _ => rfl) (fun _ => rfl))
theorem IsCh.setAhead (h : IsCh w c bn bl vn vl s) {x : Nat} (hx : x < s.N) (v : Int) : IsCh (w.setCell ⟨bn, x * 3 + 1, none⟩ (.int .i64 v)) c bn bl vn vl (s.setN x { s.nodes x with ahead := v }) :=
  h.setN hx 1 (by omega) { s.nodes x with ahead := v } (cell3 (fun _ => rfl) (fun e => absurd rfl e) (fun _ => rfl))
theorem IsCh.setBehind (h : IsCh w c bn bl vn vl s) {x : Nat} (hx : x < s.N) (v : Int) : IsCh (w.setCell ⟨bn, x * 3 + 2, none⟩ (.int .i64 v)) c bn bl vn vl (s.setN x { s.nodes x with behind := v }) :=
  h.setN hx 2 (by omega) { s.nodes x with behind := v } (cell3 (fun _ => rfl) (fun _ => rfl) (fun e => absurd rfl e))
theorem IsCh.setFirst (h : IsCh w c bn bl vn vl s) {x : Nat} (hx : x < s.M) (v : Int) : IsCh (w.setCell ⟨bl, x * 3, none⟩ (.int .i64 v)) c bn bl vn vl (s.setR x { s.rows x with first := v }) :=
  h.setR hx 0 (by omega) { s.rows x with first := v } (cell3 (fun e => absurd rfl e) (fun _ => rfl) (fun _ => rfl))
theorem IsCh.setLast (h : IsCh w c bn bl vn vl s) {x : Nat} (hx : x < s.M) (v : Int) : IsCh (w.setCell ⟨bl, x * 3 + 1, none⟩ (.int .i64 v)) c bn bl vn vl (s.setR x { s.rows x with last := v }) :=
  h.setR hx 1 (by omega) { s.rows x with last := v } (cell3 (fun _ => rfl) (fun e => absurd rfl e) (fun _ => rfl))
theorem IsCh.setCount (h : IsCh w c bn bl vn vl s) {x : Nat} (hx : x < s.M) (v : Int) : IsCh (w.setCell ⟨bl, x * 3 + 2, none⟩ (.int .i64 v)) c bn bl vn vl (s.setR x { s.rows x with n := v }) :=
  h.setR hx 2 (by omega) { s.rows x with n := v } (cell3 (fun _ => rfl) (fun _ => rfl) (fun e => absurd rfl e))

theorem IsCh.of_frm {S : Nat → Prop} (h : IsCh w c bn bl vn vl s) (hF : Frm S w w') (h1 : ¬ S c) (h2 : ¬ S bn) (h3 : ¬ S bl) : IsCh w' c bn bl vn vl s :=
  ⟨hF.blk h.top h1, h.sn, h.sl, fun hN => hF.blk (h.nodes hN) h2, fun hM => hF.blk (h.rows hM) h3, h.apart, h.most⟩
theorem IsCh.drewN (h : IsCh w c bn bl vn vl s) (k : Nat) : IsCh (w.drewN k) c bn bl vn vl s :=
  h.of_frm (S := fun _ => False) ((Frm.refl _ _).drewN _) (fun h => h) (fun h => h) (fun h => h)
theorem IsCh.drew (h : IsCh w c bn bl vn vl s) : IsCh w.drew c bn bl vn vl s :=
  h.of_frm (S := fun _ => False) ((Frm.refl _ _).drew) (fun h => h) (fun h => h) (fun h => h)
theorem IsCh.alloc (h : IsCh w c bn bl vn vl s) (o : Obj) : IsCh (w.alloc o) c bn bl vn vl s :=
  h.of_frm (S := fun _ => False) ((Frm.refl _ _).alloc _) (fun h => h) (fun h => h) (fun h => h)
end

theorem Frm.nd {a w : World} {bn bl : Nat} (h : Frm (Two bn bl) a w) (o : Nat) (v : Value) : Frm (Two bn bl) a (w.setCell ⟨bn, o, none⟩ v) := h.setCell (p := ⟨bn, o, none⟩) (fun _ => .inl rfl) v
theorem Frm.rw {a w : World} {bn bl : Nat} (h : Frm (Two bn bl) a w) (o : Nat) (v : Value) : Frm (Two bn bl) a (w.setCell ⟨bl, o, none⟩ v) := h.setCell (p := ⟨bl, o, none⟩) (fun _ => .inr rfl) v

theorem row_ok (c bn bl : Nat) (vn vl : Value) (s : Ch) (i : Nat) (w : World) (h : IsCh w c bn bl vn vl s) (hi : i < s.M) :
    Calls Try.prog 33 #[.pointer (some ⟨c, 0, none⟩), .int .i64 i] w fun r w' => r = .returned (.pointer (some ⟨bl, i * 3, none⟩)) ∧ w = w' := by
  have hc1 := h.c1
  have hm := h.most
  obtain ⟨cap, rfl⟩ : ∃ cap, vl = .slice (some ⟨bl, 0, none⟩) s.M cap := by
    rcases h.sl with ⟨e, -⟩ | ⟨-, e⟩
    · omega
    · exact e
  clear h
  go_enter Try.func33, Try.ntmps33
  go_wp2
  go_ret
  exact ⟨rfl, rfl⟩

theorem row_no (c bn bl : Nat) (vn vl : Value) (s : Ch) (i : Int) (w : World) (h : IsCh w c bn bl vn vl s) (hi : i < 0 ∨ (s.M : Int) ≤ i) :
    Calls Try.prog 33 #[.pointer (some ⟨c, 0, none⟩), .int .i64 i] w fun r w' => r = .returned (.pointer none) ∧ w = w' := by
  have hc1 := h.c1
  have hm := h.most
  obtain ⟨a, cap, rfl⟩ : ∃ a cap, vl = .slice a s.M cap := by
    rcases h.sl with ⟨e, e2⟩ | ⟨-, cap, e⟩
    · exact ⟨none, 0, by rw [e2, e]⟩
    · exact ⟨_, _, e⟩
  clear h
  by_cases h0 : i < 0
  · clear hi
    go_enter Try.func33, Try.ntmps33
    go_wp2
    go_ret
    exact ⟨rfl, rfl⟩
  · have hh : (s.M : Int) ≤ i := by omega
    clear hi
    go_enter Try.func33, Try.ntmps33
    go_wp2
    go_ret
    exact ⟨rfl, rfl⟩

theorem row_nil (i : Int) (w : World) : Calls Try.prog 33 #[.pointer none, .int .i64 i] w fun r w' => r = .returned (.pointer none) ∧ w = w' := by
  go_enter Try.func33, Try.ntmps33
  go_wp2
  go_ret
  exact ⟨rfl, rfl⟩

theorem at_ok (c bn bl : Nat) (vn vl : Value) (s : Ch) (i : Nat) (w : World) (h : IsCh w c bn bl vn vl s) (hi : i < s.N) :
    Calls Try.prog 34 #[.pointer (some ⟨c, 0, none⟩), .int .i64 i] w fun r w' => r = .returned (.pointer (some ⟨bn, i * 3, none⟩)) ∧ w = w' := by
  have hc1 := h.c0
  have hm := h.most
  obtain ⟨cap, rfl⟩ : ∃ cap, vn = .slice (some ⟨bn, 0, none⟩) s.N cap := by
    rcases h.sn with ⟨e, -⟩ | ⟨-, e⟩
    · omega
    · exact e
  clear h
  go_enter Try.func34, Try.ntmps34
  go_wp2
  go_ret
  exact ⟨rfl, rfl⟩

theorem at_no (c bn bl : Nat) (vn vl : Value) (s : Ch) (i : Int) (w : World) (h : IsCh w c bn bl vn vl s) (hi : i < 0 ∨ (s.N : Int) ≤ i) :
    Calls Try.prog 34 #[.pointer (some ⟨c, 0, none⟩), .int .i64 i] w fun r w' => r = .returned (.pointer none) ∧ w = w' := by
  have hc1 := h.c0
  have hm := h.most
  obtain ⟨a, cap, rfl⟩ : ∃ a cap, vn = .slice a s.N cap := by
    rcases h.sn with ⟨e, e2⟩ | ⟨-, cap, e⟩
    · exact ⟨none, 0, by rw [e2, e]⟩
    · exact ⟨_, _, e⟩
  clear h
  by_cases h0 : i < 0
  · clear hi
    go_enter Try.func34, Try.ntmps34
    go_wp2
    go_ret
    exact ⟨rfl, rfl⟩
  · have hh : (s.N : Int) ≤ i := by omega
    clear hi
    go_enter Try.func34, Try.ntmps34
    go_wp2
    go_ret
    exact ⟨rfl, rfl⟩

theorem at_nil (i : Int) (w : World) : Calls Try.prog 34 #[.pointer none, .int .i64 i] w fun r w' => r = .returned (.pointer none) ∧ w = w' := by
  go_enter Try.func34, Try.ntmps34
  go_wp2
  go_ret
  exact ⟨rfl, rfl⟩
end Go.Proofs.Ytedhhohnbekelaa
