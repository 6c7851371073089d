/- The rows of layer 7 as plain Lean: nodes that know their neighbours, and the lists that they stand for. No condition. -/
namespace Go.Proofs.Ytedhhohnbekelaa

structure Nd where
  list : Int
  ahead : Int
  behind : Int

structure Rw where
  first : Int
  last : Int
  n : Int

structure Ch where
  nodes : Nat → Nd
  rows : Nat → Rw
  N : Nat
  M : Nat

def hd : List Nat → Int
  | [] => -1
  | a :: _ => a

def lst : List Nat → Int
  | [] => -1
  | [a] => a
  | _ :: b :: r => lst (b :: r)

theorem hd_ge (l : List Nat) : -1 ≤ hd l := by
  cases l with
  | nil => simp [hd]
  | cons a r => simp only [hd]; omega

theorem lst_append (n : Nat) : ∀ l : List Nat, lst (l ++ [n]) = n
  | [] => rfl
  | [a] => rfl
  | _ :: b :: r => lst_append n (b :: r)

theorem lst_none : ∀ {l : List Nat}, lst l = -1 ↔ l = []
  | [] => by simp [lst]
  | [a] => by simp only [lst]; exact ⟨fun h => by omega, fun h => by simp at h⟩
  | _ :: b :: r => by
    have := lst_none (l := b :: r)
    unfold lst
    rw [this]
    simp

theorem lst_some : ∀ {l : List Nat}, l ≠ [] → ∃ (l' : List Nat) (a : Nat), l = l' ++ [a] ∧ lst l = a
  | [], h => absurd rfl h
  | [a], _ => ⟨[], a, rfl, rfl⟩
  | c :: b :: r, _ => by
    obtain ⟨l', a, h1, h2⟩ := lst_some (l := b :: r) (by simp)
    exact ⟨c :: l', a, by rw [h1]; rfl, h2⟩

theorem hd_none {l : List Nat} : hd l = -1 ↔ l = [] := by
  cases l with
  | nil => simp [hd]
  | cons a r => simp only [hd]; exact ⟨fun h => by omega, fun h => by simp at h⟩

theorem hd_append (l : List Nat) (n : Nat) : hd (l ++ [n]) = if l = [] then (n : Int) else hd l := by cases l <;> simp [hd]

/-- The nodes of row i: each knows the row, the one ahead and the one behind. -/
def DL (nd : Nat → Nd) (i : Int) : Int → List Nat → Prop
  | _, [] => True
  | p, x :: r => nd x = ⟨i, p, hd r⟩ ∧ DL nd i x r

theorem DL.congr {nd nd' : Nat → Nd} {i : Int} : ∀ {l : List Nat} {p : Int}, (∀ x ∈ l, nd' x = nd x) → DL nd i p l → DL nd' i p l
  | [], _, _, _ => trivial
  | x :: r, p, h, hd => ⟨(h x (by simp)).trans hd.1, DL.congr (fun y hy => h y (by simp [hy])) hd.2⟩

theorem DL.list {nd : Nat → Nd} {i : Int} : ∀ {l : List Nat} {p : Int}, DL nd i p l → ∀ x ∈ l, (nd x).list = i
  | [], _, _, x, hx => by simp at hx
  | y :: r, p, h, x, hx => by
    rcases List.mem_cons.1 hx with rfl | hx
    · rw [h.1]
    · exact DL.list h.2 x hx

/-- One more at the end. -/
theorem DL.push {nd nd' : Nat → Nd} {i : Int} {n : Nat} : ∀ {l : List Nat} {p : Int}, DL nd i p l → l.Nodup → n ∉ l →
    (∀ x ∈ l, (x : Int) ≠ lst l → nd' x = nd x) → (∀ a : Nat, lst l = a → a ∈ l → nd' a = { nd a with behind := n }) → nd' n = ⟨i, if l = [] then p else lst l, -1⟩ → DL nd' i p (l ++ [n])
  | [], p, _, _, _, _, _, hn => by
    show DL nd' i p [n]
    exact ⟨by simpa [hd] using hn, trivial⟩
  | [a], p, h, _, _, _, ha, hn => by
    show DL nd' i p [a, n]
    refine ⟨?_, by simpa [lst, hd] using hn, trivial⟩
    have := ha a rfl (by simp)
    rw [this, h.1]
    rfl
  | a :: b :: r, p, h, hd, hm, ho, ha, hn => by
    show DL nd' i p (a :: (b :: r ++ [n]))
    have hna := (List.nodup_cons.1 hd).1
    have e : lst (a :: b :: r) = lst (b :: r) := rfl
    have hne : (a : Int) ≠ lst (b :: r) := by
      obtain ⟨l', c, h1, h2⟩ := lst_some (l := b :: r) (by simp)
      rw [h2]
      intro e'
      have : a = c := by omega
      subst this
      apply hna
      rw [h1]
      simp
    refine ⟨?_, DL.push h.2 (List.nodup_cons.1 hd).2 (fun hx => hm (by simp [hx])) (fun x hx hl => ho x (by simp [hx]) (by rw [e]; exact hl)) (fun c hc hcm => ha c (by rw [e]; exact hc) (by simp [hcm])) ?_⟩
    · rw [ho a (by simp) (by rw [e]; exact hne), h.1]
      rfl
    · rw [hn]
      simp [lst]

/-- The one ahead of x in p, l1, x. -/
def prv (p : Int) (l1 : List Nat) : Int := if l1 = [] then p else lst l1

theorem DL.at {nd : Nat → Nd} {i : Int} {x : Nat} {l2 : List Nat} : ∀ {l1 : List Nat} {p : Int}, DL nd i p (l1 ++ x :: l2) → nd x = ⟨i, prv p l1, hd l2⟩
  | [], p, h => h.1
  | [a], p, h => by
    have := h.2.1
    rw [this]
    simp [prv, lst]
  | a :: b :: r, p, h => by
    have := DL.at (l1 := b :: r) (p := a) h.2
    rw [this]
    simp [prv, lst]

/-- One is taken out. -/
theorem DL.out {nd nd' : Nat → Nd} {i : Int} {x : Nat} {l2 : List Nat} : ∀ {l1 : List Nat} {p : Int}, DL nd i p (l1 ++ x :: l2) → (l1 ++ x :: l2).Nodup →
    (∀ y ∈ l1 ++ l2, (y : Int) ≠ lst l1 → (y : Int) ≠ hd l2 → nd' y = nd y) → (∀ a : Nat, lst l1 = a → a ∈ l1 → nd' a = { nd a with behind := hd l2 }) →
    (∀ b : Nat, hd l2 = b → nd' b = { nd b with ahead := prv p l1 }) → DL nd' i p (l1 ++ l2)
  | [], p, h, hn, ho, _, hb => by
    show DL nd' i p l2
    have h2 := h.2
    cases l2 with
    | nil => trivial
    | cons b r =>
      refine ⟨?_, DL.congr (fun y hy => ho y (by simp [hy]) (by simp only [lst]; omega) ?_) h2.2⟩
      · rw [hb b rfl, h2.1]
        rfl
      · simp only [hd]
        intro e
        have : y = b := by omega
        subst this
        have h5 := (List.nodup_cons.1 hn).2
        exact (List.nodup_cons.1 h5).1 hy
  | [a], p, h, hn, ho, ha, hb => by
    show DL nd' i p (a :: l2)
    refine ⟨?_, ?_⟩
    · rw [ha a rfl (by simp), h.1]
    · have h2 := h.2.2
      cases l2 with
      | nil => trivial
      | cons b r =>
        refine ⟨?_, DL.congr (fun y hy => ho y (by simp [hy]) ?_ ?_) h2.2⟩
        · rw [hb b rfl, h2.1]
          simp [prv, lst]
        · simp only [lst]
          intro e
          have : y = a := by omega
          subst this
          exact (List.nodup_cons.1 hn).1 (by simp [hy])
        · simp only [hd]
          intro e
          have : y = b := by omega
          subst this
          have h5 := (List.nodup_cons.1 (List.nodup_cons.1 hn).2).2
          exact (List.nodup_cons.1 h5).1 hy
  | a :: b :: r, p, h, hn, ho, ha, hb => by
    show DL nd' i p (a :: (b :: r ++ l2))
    have hna := (List.nodup_cons.1 hn).1
    have hne : (a : Int) ≠ lst (b :: r) := by
      obtain ⟨l', c, h1, h2⟩ := lst_some (l := b :: r) (by simp)
      rw [h2]
      intro e'
      have : a = c := by omega
      subst this
      apply hna
      rw [h1]
      simp
    have hne2 : (a : Int) ≠ hd l2 := by
      cases l2 with
      | nil => simp only [hd]; omega
      | cons c r' =>
        simp only [hd]
        intro e'
        have : a = c := by omega
        subst this
        exact hna (by simp)
    refine ⟨?_, DL.out (l1 := b :: r) h.2 (List.nodup_cons.1 hn).2 (fun y hy h1 h2 => ho y (List.mem_cons_of_mem a hy) h1 h2) (fun c hc hcm => ha c hc (List.mem_cons_of_mem a hcm)) (fun c hc => ?_)⟩
    · rw [ho a (by simp) hne hne2, h.1]
      rfl
    · rw [hb c hc]
      simp [prv, lst]

/-- The nodes and the rows' ends tell the rows R. -/
structure Rep (c : Ch) (R : Nat → List Nat) : Prop where
  dl : ∀ i, i < c.M → DL c.nodes i (-1) (R i)
  row : ∀ i, i < c.M → c.rows i = ⟨hd (R i), lst (R i), (R i).length⟩
  out : ∀ x, x < c.N → (∀ i, i < c.M → x ∉ R i) → c.nodes x = ⟨-1, -1, -1⟩
  nodup : ∀ i, i < c.M → (R i).Nodup
  lt : ∀ i, i < c.M → ∀ x ∈ R i, x < c.N

def updL (R : Nat → List Nat) (i : Nat) (l : List Nat) : Nat → List Nat := fun j => if j = i then l else R j

theorem Rep.apart {c : Ch} {R : Nat → List Nat} (h : Rep c R) {i j x : Nat} (hi : i < c.M) (hj : j < c.M) (hx : x ∈ R i) (hy : x ∈ R j) : i = j := by
  have h1 := (h.dl i hi).list x hx
  have h2 := (h.dl j hj).list x hy
  omega

/-- What lies in a node tells where it stands. -/
theorem Rep.where {c : Ch} {R : Nat → List Nat} (h : Rep c R) {x : Nat} (hx : x < c.N) :
    ((c.nodes x).list = -1 ∧ ∀ i, i < c.M → x ∉ R i) ∨ ∃ i, i < c.M ∧ (c.nodes x).list = i ∧ x ∈ R i := by
  by_cases he : ∃ i, i < c.M ∧ x ∈ R i
  · obtain ⟨i, h1, h2⟩ := he
    exact .inr ⟨i, h1, (h.dl i h1).list x h2, h2⟩
  · have hno : ∀ i, i < c.M → x ∉ R i := fun i h1 h2 => he ⟨i, h1, h2⟩
    exact .inl ⟨by rw [h.out x hx hno], hno⟩

def Ch.setN (c : Ch) (x : Nat) (v : Nd) : Ch := { c with nodes := fun y => if y = x then v else c.nodes y }
def Ch.setR (c : Ch) (i : Nat) (v : Rw) : Ch := { c with rows := fun j => if j = i then v else c.rows j }

/-- Push, of a node that stands in no row. -/
def Ch.push (c : Ch) (i n : Nat) : Ch :=
  let c1 := c.setN n ⟨i, (c.rows i).last, -1⟩
  let c2 := if (c.rows i).last = -1 then c1.setR i { c1.rows i with first := n } else c1.setN (c.rows i).last.toNat { c1.nodes (c.rows i).last.toNat with behind := n }
  c2.setR i ⟨(c2.rows i).first, n, (c2.rows i).n + 1⟩

theorem Rep.push {c : Ch} {R : Nat → List Nat} (h : Rep c R) {i n : Nat} (hi : i < c.M) (hn : n < c.N) (hno : ∀ j, j < c.M → n ∉ R j) : Rep (c.push i n) (updL R i (R i ++ [n])) := by
  have hr := h.row i hi
  have hM : (c.push i n).M = c.M := by unfold Ch.push; simp only []; split <;> rfl
  have hN : (c.push i n).N = c.N := by unfold Ch.push; simp only []; split <;> rfl
  have hrow : ∀ j, (c.push i n).rows j = if j = i then ⟨hd (R i ++ [n]), n, (R i).length + 1⟩ else c.rows j := by
    intro j
    unfold Ch.push
    simp only [hr, hd_append]
    by_cases hl : lst (R i) = -1
    · have := lst_none.1 hl
      rw [if_pos this]
      simp only [hl, if_true, Ch.setR, Ch.setN, hr]
      by_cases e : j = i <;> simp [e]
    · have : R i ≠ [] := fun e => hl (lst_none.2 e)
      rw [if_neg this]
      simp only [hl, if_false, Ch.setR, Ch.setN, hr]
  have hnode : ∀ x, (c.push i n).nodes x = if (x : Int) = lst (R i) ∧ R i ≠ [] ∧ x ≠ n then { c.nodes x with behind := n } else if x = n then ⟨i, lst (R i), -1⟩ else c.nodes x := by
    intro x
    unfold Ch.push
    simp only [hr]
    by_cases hl : lst (R i) = -1
    · have := lst_none.1 hl
      have hneg : ¬ ((x : Int) = -1 ∧ R i ≠ [] ∧ x ≠ n) := fun e => e.2.1 this
      simp only [hl, if_true, Ch.setR, Ch.setN]
      rw [if_neg hneg]
    · have hne : R i ≠ [] := fun e => hl (lst_none.2 e)
      obtain ⟨l', a, h1, h2⟩ := lst_some hne
      have han : a ≠ n := by rintro rfl; exact hno i hi (by rw [h1]; simp)
      have hta : (a : Int).toNat = a := by omega
      simp only [hl, if_false, Ch.setR, Ch.setN, h2, hta]
      by_cases e : x = a
      · subst e; simp [hne, han]
      · have : ¬ (x : Int) = a := by omega
        simp [e, this]
  constructor
  · intro j hj
    rw [hM] at hj
    unfold updL
    by_cases e : j = i
    · subst e
      rw [if_pos rfl]
      refine (h.dl j hi).push (h.nodup j hi) (hno j hi) (fun x hx hl => ?_) (fun a ha ham => ?_) ?_
      · have hxn : x ≠ n := by rintro rfl; exact hno j hi hx
        rw [hnode, if_neg (fun e => hl e.1), if_neg hxn]
      · have han : a ≠ n := by rintro rfl; exact hno j hi ham
        have hne : R j ≠ [] := by rintro e; rw [e] at ham; simp at ham
        rw [hnode, if_pos ⟨ha.symm, hne, han⟩]
      · rw [hnode, if_neg (fun e => e.2.2 rfl), if_pos rfl]
        by_cases e : R j = []
        · simp [e, lst]
        · simp [e]
    · rw [if_neg e]
      refine (h.dl j hj).congr fun x hx => ?_
      have hxn : x ≠ n := by rintro rfl; exact hno j hj hx
      rw [hnode, if_neg, if_neg hxn]
      rintro ⟨h1, h2, -⟩
      obtain ⟨l', a, h3, h4⟩ := lst_some h2
      have : x = a := by omega
      subst this
      exact e (h.apart hj hi hx (by rw [h3]; simp))
  · intro j hj
    rw [hM] at hj
    rw [hrow]
    unfold updL
    by_cases e : j = i
    · rw [if_pos e, if_pos e, lst_append]; simp
    · rw [if_neg e, if_neg e]; exact h.row j hj
  · intro x hx hox
    rw [hN] at hx
    rw [hM] at hox
    have hxn : x ≠ n := by
      rintro rfl
      exact hox i hi (by simp [updL])
    have hxo : ∀ j, j < c.M → x ∉ R j := fun j hj hm => by
      refine hox j hj ?_
      unfold updL
      split
      · rename_i e; subst e; simp [hm]
      · exact hm
    rw [hnode, if_neg, if_neg hxn]
    · exact h.out x hx hxo
    · rintro ⟨h1, h2, -⟩
      obtain ⟨l', a, h3, h4⟩ := lst_some h2
      have : x = a := by omega
      subst this
      exact hxo i hi (by rw [h3]; simp)
  · intro j hj
    rw [hM] at hj
    unfold updL
    split
    · exact List.nodup_append.2 ⟨h.nodup i hi, by simp, fun a ha b hb => by simp at hb; subst hb; rintro rfl; exact hno i hi ha⟩
    · exact h.nodup j hj
  · intro j hj x hx
    rw [hM] at hj
    rw [hN]
    unfold updL at hx
    split at hx
    · rcases List.mem_append.1 hx with hx | hx
      · exact h.lt i hi x hx
      · simp at hx; subst hx; exact hn
    · exact h.lt j hj x hx

/-- Remove, of a node that stands in a row. -/
def Ch.remove (c : Ch) (x : Nat) : Ch :=
  let i := (c.nodes x).list.toNat
  let c1 := if (c.nodes x).ahead = -1 then c.setR i { c.rows i with first := (c.nodes x).behind } else c.setN (c.nodes x).ahead.toNat { c.nodes (c.nodes x).ahead.toNat with behind := (c.nodes x).behind }
  let c2 := if (c1.nodes x).behind = -1 then c1.setR i { c1.rows i with last := (c1.nodes x).ahead } else c1.setN (c1.nodes x).behind.toNat { c1.nodes (c1.nodes x).behind.toNat with ahead := (c1.nodes x).ahead }
  (c2.setR i { c2.rows i with n := (c2.rows i).n - 1 }).setN x ⟨-1, -1, -1⟩

theorem lst_append2 : ∀ (l1 l2 : List Nat), lst (l1 ++ l2) = if l2 = [] then lst l1 else lst l2
  | [], l2 => by by_cases e : l2 = [] <;> simp [e, lst]
  | [a], l2 => by cases l2 <;> simp [lst]
  | a :: b :: r, l2 => by
    have := lst_append2 (b :: r) l2
    have e : lst (a :: b :: r ++ l2) = lst (b :: r ++ l2) := rfl
    rw [e, this]
    rfl

theorem hd_append2 (l1 l2 : List Nat) : hd (l1 ++ l2) = if l1 = [] then hd l2 else hd l1 := by cases l1 <;> simp [hd]

theorem Rep.remove {c : Ch} {R : Nat → List Nat} (h : Rep c R) {i x : Nat} {l1 l2 : List Nat} (hi : i < c.M) (hx : R i = l1 ++ x :: l2) : Rep (c.remove x) (updL R i (l1 ++ l2)) := by
  have hr := h.row i hi
  have hnd := h.nodup i hi
  have hdl := h.dl i hi
  rw [hx] at hr hnd hdl
  have hat := hdl.at
  have hp : prv (-1) l1 = lst l1 := by unfold prv; split <;> rename_i e <;> simp [e, lst]
  rw [hp] at hat
  have hxM : ∀ j, j < c.M → x ∈ R j → j = i := fun j hj hm => h.apart hj hi hm (by rw [hx]; simp)
  have hx1 : x ∉ l1 := by intro hm; exact (List.nodup_append.1 hnd).2.2 x hm x (by simp) rfl
  have hx2 : x ∉ l2 := (List.nodup_cons.1 (List.nodup_append.1 hnd).2.1).1
  have h12 : ∀ y, y ∈ l1 → y ∈ l2 → False := fun y h1 h2 => (List.nodup_append.1 hnd).2.2 y h1 y (by simp [h2]) rfl
  have hl1 : l1 ≠ [] → ∃ a : Nat, lst l1 = a ∧ a ∈ l1 := fun hne => by
    obtain ⟨l', a, h1, h2⟩ := lst_some hne
    exact ⟨a, h2, by rw [h1]; simp⟩
  have hl2 : l2 ≠ [] → ∃ b : Nat, hd l2 = b ∧ b ∈ l2 := fun hne => by
    cases l2 with
    | nil => exact absurd rfl hne
    | cons b r => exact ⟨b, rfl, by simp⟩
  have hM : (c.remove x).M = c.M := by unfold Ch.remove; simp only []; (repeat' split) <;> rfl
  have hN : (c.remove x).N = c.N := by unfold Ch.remove; simp only []; (repeat' split) <;> rfl
  have hti : (i : Int).toNat = i := by omega
  have hrow : ∀ j, (c.remove x).rows j = if j = i then ⟨hd (l1 ++ l2), lst (l1 ++ l2), (l1 ++ l2).length⟩ else c.rows j := by
    intro j
    unfold Ch.remove
    simp only [hat, hti, hd_append2, lst_append2]
    by_cases e1 : l1 = []
    · subst e1
      by_cases e2 : l2 = []
      · subst e2
        simp only [lst, if_true, Ch.setR, Ch.setN, hat, hd, hr]
        by_cases e : j = i <;> simp [e]
      · obtain ⟨b, hb, -⟩ := hl2 e2
        have hb1 : ¬ hd l2 = -1 := by omega
        simp only [lst, if_true, Ch.setR, Ch.setN, hat, hb1, if_false, e2, hr]
        by_cases e : j = i
        · simp [e, lst_append2]
          have : lst (x :: l2) = lst l2 := by cases l2 with | nil => exact absurd rfl e2 | cons b r => rfl
          rw [this]
        · simp [e]
    · obtain ⟨a, ha, ham⟩ := hl1 e1
      have ha1 : ¬ lst l1 = -1 := by omega
      have hta : (lst l1).toNat = a := by omega
      have hax : ¬ x = a := by rintro rfl; exact hx1 ham
      by_cases e2 : l2 = []
      · subst e2
        have hd0 : hd ([] : List Nat) = -1 := rfl
        have hdl1 : hd (l1 ++ [x]) = hd l1 := by rw [hd_append2, if_neg e1]
        simp only [ha1, if_false, if_true, Ch.setR, Ch.setN, hta, hax, hat, hd0, hr, hdl1]
        by_cases e : j = i
        · simp [e, e1]
        · simp [e]
      · obtain ⟨b, hb, -⟩ := hl2 e2
        have hb1 : ¬ hd l2 = -1 := by omega
        simp only [ha1, if_false, Ch.setR, Ch.setN, hta, hax, hat, hb1, e1, e2, hr]
        by_cases e : j = i
        · simp [e, e1, e2, hd_append2, lst_append2]
          have h5 : lst (x :: l2) = lst l2 := by cases l2 with | nil => exact absurd rfl e2 | cons b r => rfl
          rw [h5]
          exact ⟨rfl, by omega⟩
        · simp [e]
  have hnode : ∀ y, (c.remove x).nodes y = if y = x then ⟨-1, -1, -1⟩ else if (y : Int) = lst l1 then { c.nodes y with behind := hd l2 } else if (y : Int) = hd l2 then { c.nodes y with ahead := lst l1 } else c.nodes y := by
    intro y
    unfold Ch.remove
    simp only [hat]
    by_cases e1 : l1 = []
    · subst e1
      have hy1 : ¬ (y : Int) = -1 := by omega
      by_cases e2 : l2 = []
      · subst e2
        simp only [lst, hd, if_true, Ch.setR, Ch.setN, hat, hy1, if_false]
      · obtain ⟨b, hb, hbm⟩ := hl2 e2
        have hb1 : ¬ hd l2 = -1 := by omega
        have htb : (hd l2).toNat = b := by omega
        simp only [lst, if_true, Ch.setR, Ch.setN, hat, hb1, if_false, hy1, htb]
        by_cases e : y = b
        · subst e; simp [hb]
        · have : ¬ (y : Int) = hd l2 := by omega
          simp [e, this]
    · obtain ⟨a, ha, ham⟩ := hl1 e1
      have ha1 : ¬ lst l1 = -1 := by omega
      have hta : (lst l1).toNat = a := by omega
      have hax : ¬ x = a := by rintro rfl; exact hx1 ham
      by_cases e2 : l2 = []
      · subst e2
        have hy1 : ¬ (y : Int) = -1 := by omega
        simp only [ha1, if_false, if_true, Ch.setR, Ch.setN, hta, hax, hat, hd, hy1]
        by_cases e : y = a
        · subst e; simp [ha]
        · have : ¬ (y : Int) = lst l1 := by omega
          simp [e, this]
      · obtain ⟨b, hb, hbm⟩ := hl2 e2
        have hb1 : ¬ hd l2 = -1 := by omega
        have htb : (hd l2).toNat = b := by omega
        have hab : ¬ b = a := by rintro rfl; exact h12 b ham hbm
        simp only [ha1, if_false, Ch.setR, Ch.setN, hta, hax, hat, hb1, htb, hab]
        by_cases e : y = b
        · subst e
          have : ¬ (y : Int) = lst l1 := by omega
          simp [hb, this]
        · have h6 : ¬ (y : Int) = hd l2 := by omega
          by_cases e' : y = a
          · subst e'; simp [ha, hab, e]
          · have : ¬ (y : Int) = lst l1 := by omega
            simp [e, e', h6, this]
  constructor
  · intro j hj
    rw [hM] at hj
    unfold updL
    by_cases e : j = i
    · subst e
      rw [if_pos rfl]
      refine hdl.out hnd (fun y hy h1 h2 => ?_) (fun a ha ham => ?_) (fun b hb => ?_)
      · have hyx : y ≠ x := by rintro rfl; rcases List.mem_append.1 hy with hm | hm <;> simp_all
        rw [hnode, if_neg hyx, if_neg h1, if_neg h2]
      · have hax : a ≠ x := by rintro rfl; exact hx1 ham
        rw [hnode, if_neg hax, if_pos ha.symm]
      · have hne : l2 ≠ [] := by rintro rfl; simp only [hd] at hb; omega
        obtain ⟨b', hb', hbm⟩ := hl2 hne
        have : b = b' := by omega
        subst this
        have hbx : b ≠ x := by rintro rfl; exact hx2 hbm
        rw [hnode, if_neg hbx, if_neg, if_pos hb.symm, hp]
        intro e
        have hne1 : l1 ≠ [] := by rintro rfl; simp only [lst] at e; omega
        obtain ⟨a, ha, ham⟩ := hl1 hne1
        have : b = a := by omega
        subst this
        exact h12 b ham hbm
    · rw [if_neg e]
      refine (h.dl j hj).congr fun y hy => ?_
      have hyR : ∀ z, z ∈ l1 ∨ z ∈ l2 → z ≠ y := by
        rintro z hz rfl
        exact e (h.apart hj hi hy (by rw [hx]; simp; rcases hz with hz | hz <;> simp [hz]))
      have hyx : y ≠ x := by rintro rfl; exact e (hxM j hj hy)
      rw [hnode, if_neg hyx, if_neg, if_neg]
      · intro e5
        have hne : l2 ≠ [] := by rintro rfl; simp only [hd] at e5; omega
        obtain ⟨b, hb, hbm⟩ := hl2 hne
        exact hyR b (.inr hbm) (by omega)
      · intro e5
        have hne : l1 ≠ [] := by rintro rfl; simp only [lst] at e5; omega
        obtain ⟨b, hb, hbm⟩ := hl1 hne
        exact hyR b (.inl hbm) (by omega)
  · intro j hj
    rw [hM] at hj
    rw [hrow]
    unfold updL
    by_cases e : j = i
    · rw [if_pos e, if_pos e]
    · rw [if_neg e, if_neg e]; exact h.row j hj
  · intro y hy hoy
    rw [hN] at hy
    rw [hM] at hoy
    by_cases hyx : y = x
    · rw [hnode, if_pos hyx]
    · have hyo : ∀ j, j < c.M → y ∉ R j := fun j hj hm => by
        refine hoy j hj ?_
        unfold updL
        split
        · rename_i e; subst e
          rw [hx] at hm
          simp at hm ⊢
          rcases hm with hm | hm | hm
          · exact .inl hm
          · exact absurd hm hyx
          · exact .inr hm
        · exact hm
      have hyi := hyo i hi
      rw [hx] at hyi
      simp at hyi
      rw [hnode, if_neg hyx, if_neg, if_neg]
      · exact h.out y hy hyo
      · intro e5
        have hne : l2 ≠ [] := by rintro rfl; simp only [hd] at e5; omega
        obtain ⟨b, hb, hbm⟩ := hl2 hne
        have : y = b := by omega
        subst this
        exact hyi.2.2 hbm
      · intro e5
        have hne : l1 ≠ [] := by rintro rfl; simp only [lst] at e5; omega
        obtain ⟨b, hb, hbm⟩ := hl1 hne
        have : y = b := by omega
        subst this
        exact hyi.1 hbm
  · intro j hj
    rw [hM] at hj
    unfold updL
    split
    · have := List.nodup_append.1 hnd
      exact List.nodup_append.2 ⟨this.1, (List.nodup_cons.1 this.2.1).2, fun a ha b hb => this.2.2 a ha b (by simp [hb])⟩
    · exact h.nodup j hj
  · intro j hj y hy
    rw [hM] at hj
    rw [hN]
    unfold updL at hy
    split at hy
    · refine h.lt i hi y ?_
      rw [hx]
      simp at hy ⊢
      rcases hy with hy | hy <;> simp [hy]
    · exact h.lt j hj y hy
end Go.Proofs.Ytedhhohnbekelaa
