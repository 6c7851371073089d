/- The row of layer 29 as plain Lean: who stands in it, who is inside, and what a step does to it. No condition. -/
import Derived.Test.YthhcmilijiccmaaM
namespace Go.Proofs.Ythhcmilijiccmaa

theorem Lock.ps_setP (L : Lock) (i : Nat) (p : Party) (j : Nat) : (L.setP i p).ps j = if j = i then p else L.ps j := rfl

/-- Those behind a: each waits, and is linked with the one ahead, or will be. -/
def Links (L : Lock) : Nat → List Nat → Prop
  | a, [] => (L.ps a).next = -1
  | a, b :: r => ((L.ps b).state = 1 ∧ (L.ps b).waits = true ∧ (((L.ps b).step = 4 ∧ (L.ps b).other = a ∧ (L.ps a).next = -1) ∨ ((L.ps b).step = 5 ∧ (L.ps a).next = b))) ∧ Links L b r

theorem Links.congr {L L' : Lock} : ∀ {r : List Nat} {a : Nat}, (L'.ps a).next = (L.ps a).next → (∀ x ∈ r, L'.ps x = L.ps x) → Links L a r → Links L' a r
  | [], a, hn, _, h => by unfold Links at h ⊢; rw [hn]; exact h
  | b :: r, a, hn, hr, h => by
    unfold Links at h ⊢
    have hb := hr b (by simp)
    rw [hn, hb]
    exact ⟨h.1, Links.congr (by rw [hb]) (fun x hx => hr x (by simp [hx])) h.2⟩

theorem Links.each {L : Lock} : ∀ {r : List Nat} {a : Nat}, Links L a r → ∀ x ∈ r, (L.ps x).state = 1 ∧ (L.ps x).waits = true ∧ ((L.ps x).step = 4 ∨ (L.ps x).step = 5)
  | [], a, h, x, hx => by simp at hx
  | b :: r, a, h, x, hx => by
    unfold Links at h
    rcases List.mem_cons.1 hx with rfl | hx
    · obtain ⟨⟨h1, h2, h3⟩, -⟩ := h
      exact ⟨h1, h2, h3.elim (fun e => .inl e.1) (fun e => .inr e.1)⟩
    · exact Links.each h.2 x hx

/-- The last one. -/
def endOf : Nat → List Nat → Nat
  | a, [] => a
  | _, b :: r => endOf b r

theorem endOf_append (i : Nat) : ∀ (r : List Nat) (a : Nat), endOf a (r ++ [i]) = i
  | [], _ => rfl
  | b :: r, _ => endOf_append i r b

theorem endOf_mem : ∀ (r : List Nat) (a : Nat), endOf a r ∈ a :: r
  | [], a => by simp [endOf]
  | b :: r, a => by
    have := endOf_mem r b
    unfold endOf
    exact List.mem_cons_of_mem _ this

theorem endOf_self {a : Nat} : ∀ {r : List Nat}, (a :: r).Nodup → endOf a r = a → r = []
  | [], _, _ => rfl
  | b :: r, hn, he => by
    have h1 := endOf_mem r b
    unfold endOf at he
    rw [he] at h1
    exact absurd h1 (List.nodup_cons.1 hn).1

/-- One more comes to the end. -/
theorem Links.append {L L' : Lock} {i : Nat} : ∀ {r : List Nat} {a : Nat}, Links L a r → L'.ps a = L.ps a → (∀ x ∈ r, L'.ps x = L.ps x) →
    (L'.ps i).state = 1 → (L'.ps i).waits = true → (L'.ps i).step = 4 → (L'.ps i).other = endOf a r → (L'.ps i).next = -1 → Links L' a (r ++ [i])
  | [], a, h, ha, _, h1, h2, h3, h4, h5 => by
    unfold Links at h
    show Links L' a [i]
    unfold Links
    refine ⟨⟨h1, h2, .inl ⟨h3, h4, by rw [ha]; exact h⟩⟩, ?_⟩
    unfold Links
    exact h5
  | b :: r, a, h, ha, hr, h1, h2, h3, h4, h5 => by
    unfold Links at h
    show Links L' a (b :: (r ++ [i]))
    unfold Links
    have hb := hr b (by simp)
    rw [ha, hb]
    exact ⟨h.1, Links.append h.2 hb (fun x hx => hr x (by simp [hx])) h1 h2 h3 h4 h5⟩

theorem Links.prev {L : Lock} {i : Nat} : ∀ {r : List Nat} {a : Nat}, Links L a r → i ∈ r → (L.ps i).step = 4 → ∃ o : Nat, (L.ps i).other = o ∧ o ∈ a :: r
  | [], a, _, hi, _ => by simp at hi
  | b :: r, a, h, hi, hs => by
    unfold Links at h
    rcases List.mem_cons.1 hi with rfl | hi
    · rcases h.1.2.2 with e | e
      · exact ⟨a, e.2.1, by simp⟩
      · omega
    · obtain ⟨o, h1, h2⟩ := Links.prev h.2 hi hs
      exact ⟨o, h1, List.mem_cons_of_mem _ h2⟩

/-- One is linked with the one ahead. -/
theorem Links.link {L L' : Lock} {i o : Nat} (hs : (L.ps i).step = 4) (ho : (L.ps i).other = o) (hio : i ≠ o)
    (hx : ∀ x, x ≠ i → x ≠ o → L'.ps x = L.ps x) (h1 : L'.ps i = { L.ps i with step := 5 }) (h2 : L'.ps o = { L.ps o with next := i }) :
    ∀ {r : List Nat} {a : Nat}, (a :: r).Nodup → i ∈ r → Links L a r → Links L' a r
  | [], a, _, hi, _ => by simp at hi
  | b :: r, a, hn, hi, h => by
    unfold Links at h ⊢
    have hna := (List.nodup_cons.1 hn).1
    have hnb := (List.nodup_cons.1 hn).2
    by_cases hb : b = i
    · subst hb
      obtain ⟨⟨s1, s2, s3⟩, h4⟩ := h
      have hao : o = a := by
        rcases s3 with e | e
        · have := e.2.1; omega
        · omega
      subst hao
      rw [h1, h2]
      refine ⟨⟨s1, s2, .inr ⟨rfl, rfl⟩⟩, Links.congr (by rw [h1]) (fun x hxr => hx x ?_ ?_) h4⟩
      · rintro rfl; exact (List.nodup_cons.1 hnb).1 hxr
      · rintro rfl; exact hna (List.mem_cons_of_mem _ hxr)
    · have hir : i ∈ r := (List.mem_cons.1 hi).resolve_left (fun e => hb e.symm)
      obtain ⟨o', ho', hom⟩ := Links.prev h.2 hir hs
      have : o' = o := by omega
      subst this
      have hao : a ≠ o' := by rintro rfl; exact hna hom
      have hai : a ≠ i := by rintro rfl; exact hna (List.mem_cons_of_mem _ hir)
      rw [hx a hai hao]
      refine ⟨?_, Links.link hs ho hio hx h1 h2 hnb hir h.2⟩
      by_cases hbo : b = o'
      · subst hbo
        rw [h2]
        exact h.1
      · rw [hx b hb hbo]
        exact h.1

/-- The one ahead of all: free to come inside, inside, or giving. -/
def Head (L : Lock) (a : Nat) : Prop :=
  ((L.ps a).state = 1 ∧ (L.ps a).step = 5 ∧ (L.ps a).waits = false) ∨ (L.ps a).state = 2 ∨ ((L.ps a).state = 3 ∧ ((L.ps a).step = 3 → (L.ps a).other = (L.ps a).next ∧ (L.ps a).next ≠ -1))

def Line (L : Lock) : List Nat → Prop
  | [] => L.tail = -1
  | a :: r => L.tail = endOf a r ∧ Head L a ∧ Links L a r

structure Inv (L : Lock) (Q : List Nat) : Prop where
  nodup : Q.Nodup
  lt : ∀ i ∈ Q, i < L.n
  mem : ∀ i, i < L.n → (i ∈ Q ↔ ((L.ps i).state = 1 ∧ 4 ≤ (L.ps i).step) ∨ 2 ≤ (L.ps i).state)
  pre : ∀ i, i < L.n → (L.ps i).state = 1 → ((L.ps i).step = 2 ∨ (L.ps i).step = 3 → (L.ps i).next = -1) ∧ ((L.ps i).step = 3 → (L.ps i).waits = true)
  line : Line L Q

/-- Those of the row who are not inside yet. -/
def rowOf (L : Lock) : List Nat → List Nat
  | [] => []
  | a :: r => if 2 ≤ (L.ps a).state then r else a :: r

theorem rowOf_cons (L : Lock) (a : Nat) (r : List Nat) : rowOf L (a :: r) = if 2 ≤ (L.ps a).state then r else a :: r := rfl
theorem rowOf_nil (L : Lock) : rowOf L [] = [] := rfl

theorem Inv.fresh (n : Int) : Inv (Lock.fresh n) [] := by
  refine ⟨by simp, by simp, fun i hi => ?_, fun i hi h => ?_, rfl⟩
  · simp [Lock.fresh]
  · simp [Lock.fresh] at h

theorem Line.out {L L' : Lock} {Q : List Nat} (h : Line L Q) (ht : L'.tail = L.tail) (hp : ∀ x ∈ Q, L'.ps x = L.ps x) : Line L' Q := by
  cases Q with
  | nil => unfold Line at h ⊢; rw [ht]; exact h
  | cons a r =>
    unfold Line at h ⊢
    have ha := hp a (by simp)
    refine ⟨by rw [ht]; exact h.1, ?_, h.2.2.congr (by rw [ha]) (fun x hx => hp x (by simp [hx]))⟩
    unfold Head
    rw [ha]
    exact h.2.1

theorem rowOf_congr {L L' : Lock} {Q : List Nat} (hp : ∀ x ∈ Q, (L'.ps x).state = (L.ps x).state) : rowOf L' Q = rowOf L Q := by
  cases Q with
  | nil => rfl
  | cons a r => simp only [rowOf_cons]; rw [hp a (by simp)]

/-- One that is not in the row changes, and does not come into it. -/
theorem Inv.setOut {L : Lock} {Q : List Nat} (h : Inv L Q) {i : Nat} (hi : i < L.n) (hq : i ∉ Q) {p : Party}
    (h1 : ¬ (p.state = 1 ∧ 4 ≤ p.step)) (h2 : ¬ 2 ≤ p.state) (h3 : p.state = 1 → (p.step = 2 ∨ p.step = 3 → p.next = -1) ∧ (p.step = 3 → p.waits = true)) :
    Inv (L.setP i p) Q ∧ rowOf (L.setP i p) Q = rowOf L Q := by
  have ho : ∀ x ∈ Q, (L.setP i p).ps x = L.ps x := fun x hx => L.setP_other p (by rintro rfl; exact hq hx)
  refine ⟨⟨h.nodup, h.lt, fun j hj => ?_, fun j hj => ?_, h.line.out rfl ho⟩, rowOf_congr fun x hx => by rw [ho x hx]⟩
  · by_cases e : j = i
    · subst e
      rw [Lock.setP_same]
      simp only [hq, false_iff]
      omega
    · rw [Lock.setP_other _ _ e]; exact h.mem j hj
  · by_cases e : j = i
    · subst e; rw [Lock.setP_same]; exact h3
    · rw [Lock.setP_other _ _ e]; exact h.pre j hj

/-- The first one changes, and goes on inside. -/
theorem Inv.setHead {L : Lock} {a : Nat} {r : List Nat} (h : Inv L (a :: r)) {p : Party} (hn : p.next = (L.ps a).next) (hs : 2 ≤ p.state)
    (hh : p.state = 2 ∨ (p.state = 3 ∧ (p.step = 3 → p.other = p.next ∧ p.next ≠ -1))) : Inv (L.setP a p) (a :: r) ∧ rowOf (L.setP a p) (a :: r) = r := by
  have ha := (List.nodup_cons.1 h.nodup).1
  have hl := h.line
  unfold Line at hl
  refine ⟨⟨h.nodup, h.lt, fun j hj => ?_, fun j hj => ?_, ?_⟩, ?_⟩
  · by_cases e : j = a
    · subst e
      rw [Lock.setP_same]
      simp [hs]
    · rw [Lock.setP_other _ _ e]; exact h.mem j hj
  · by_cases e : j = a
    · subst e; rw [Lock.setP_same]; intro h4; omega
    · rw [Lock.setP_other _ _ e]; exact h.pre j hj
  · unfold Line
    refine ⟨hl.1, ?_, hl.2.2.congr (by rw [Lock.setP_same, hn]) (fun x hx => L.setP_other p (by rintro rfl; exact ha hx))⟩
    unfold Head
    rw [Lock.setP_same]
    exact .inr hh
  · simp only [rowOf_cons]
    rw [Lock.setP_same, if_pos hs]

/-- Who is inside or giving is the first one. -/
theorem Inv.first {L : Lock} {Q : List Nat} (h : Inv L Q) {i : Nat} (hi : i < L.n) (hs : 2 ≤ (L.ps i).state) : ∃ r, Q = i :: r := by
  have hm := (h.mem i hi).2 (.inr hs)
  cases Q with
  | nil => simp at hm
  | cons a r =>
    have hl := h.line
    unfold Line at hl
    rcases List.mem_cons.1 hm with rfl | hm
    · exact ⟨r, rfl⟩
    · have := (hl.2.2.each i hm).1
      omega

theorem Inv.one {L : Lock} {Q : List Nat} (h : Inv L Q) {i j : Nat} (hi : i < L.n) (hj : j < L.n) (h1 : 2 ≤ (L.ps i).state) (h2 : 2 ≤ (L.ps j).state) : i = j := by
  obtain ⟨r, rfl⟩ := h.first hi h1
  obtain ⟨r', e⟩ := h.first hj h2
  simp at e
  exact e.1

theorem Inv.notIn {L : Lock} {Q : List Nat} (h : Inv L Q) {i : Nat} (hi : i < L.n) (h1 : ¬ ((L.ps i).state = 1 ∧ 4 ≤ (L.ps i).step)) (h2 : ¬ 2 ≤ (L.ps i).state) : i ∉ Q := by
  intro hm
  rcases (h.mem i hi).1 hm with e | e <;> omega

/-- A call: who stands in the row stays in it. -/
theorem Inv.call {L : Lock} {Q : List Nat} (h : Inv L Q) (who f : Int) (hf : f = 0 ∨ f = 2) : Inv (L.call who f).2 Q ∧ rowOf (L.call who f).2 Q = rowOf L Q := by
  unfold Lock.call
  split
  case isFalse => exact ⟨h, rfl⟩
  split
  case isFalse => exact ⟨h, rfl⟩
  rename_i hh hs
  have hh := Lock.has_iff.1 hh
  have hi : who.toNat < L.n := by omega
  generalize who.toNat = i at *
  unfold Lock.put
  rcases hf with rfl | rfl
  · exact h.setOut hi (h.notIn hi (by omega) (by omega)) (by simp) (by simp) (by simp)
  · obtain ⟨r, rfl⟩ := h.first hi (by omega)
    have h2 := h.setHead (p := { L.ps i with state := 3, step := 1 }) rfl (by simp) (by simp)
    refine ⟨h2.1, h2.2.trans ?_⟩
    simp only [rowOf_cons]
    rw [if_pos (by omega)]

/-- A step of one that takes. -/
theorem Inv.take {L : Lock} {Q : List Nat} (h : Inv L Q) (ok : L.Ok) {i : Nat} (hi : i < L.n) (hs : (L.ps i).state = 1) :
    ∃ Q', Inv (L.take i) Q' ∧
      (if (L.ps i).step = 3 then rowOf L Q ++ [i] else rowOf L Q) = (if ((L.take i).ps i).state = 2 then i :: rowOf (L.take i) Q' else rowOf (L.take i) Q') := by
  have hok := (ok.ps i).taking hs
  have hpre := h.pre i hi hs
  unfold Lock.take
  by_cases s1 : (L.ps i).step = 1
  · obtain ⟨h1, h2⟩ := h.setOut (p := { L.ps i with next := -1, step := 2 }) hi (h.notIn hi (by omega) (by omega)) (by simp) (by simp [hs]) (by simp)
    refine ⟨Q, ?_⟩
    rw [if_pos s1, if_neg (by omega), h2, Lock.setP_same, if_neg (by simp only []; omega)]
    exact ⟨h1, rfl⟩
  by_cases s2 : (L.ps i).step = 2
  · obtain ⟨h1, h2⟩ := h.setOut (p := { L.ps i with waits := true, step := 3 }) hi (h.notIn hi (by omega) (by omega)) (by simp) (by simp [hs]) (by simp; intro _; exact hpre.1 (.inl s2))
    refine ⟨Q, ?_⟩
    rw [if_neg s1, if_pos s2, if_neg (by omega), h2, Lock.setP_same, if_neg (by simp only []; omega)]
    exact ⟨h1, rfl⟩
  by_cases s3 : (L.ps i).step = 3
  · have hq := h.notIn hi (by omega) (by omega)
    rw [if_neg s1, if_neg s2, if_pos s3, if_pos s3]
    generalize hp : ({ L.ps i with other := L.tail, state := if L.tail = -1 then 2 else (L.ps i).state, step := 4 } : Party) = p
    have p1 : p.other = L.tail := by rw [← hp]
    have p2 : p.state = if L.tail = -1 then 2 else 1 := by rw [← hp]; simp only [hs]
    have p3 : p.step = 4 := by rw [← hp]
    have p4 : p.next = -1 := by rw [← hp]; exact hpre.1 (.inr s3)
    have p5 : p.waits = true := by rw [← hp]; exact hpre.2 s3
    clear hp
    have hl := h.line
    have ho : ∀ x ∈ Q, ((L.setP i p).setT i).ps x = L.ps x := fun x hx => L.setP_other p (by rintro rfl; exact hq hx)
    have hsame : ((L.setP i p).setT i).ps i = p := L.setP_same i p
    refine ⟨Q ++ [i], ⟨?_, ?_, fun j hj => ?_, fun j hj => ?_, ?_⟩, ?_⟩
    · exact List.nodup_append.2 ⟨h.nodup, by simp, fun a ha b hb => by simp at hb; subst hb; rintro rfl; exact hq ha⟩
    · intro j hj
      rcases List.mem_append.1 hj with hj | hj
      · exact h.lt j hj
      · simp at hj; subst hj; exact hi
    · by_cases e : j = i
      · subst e
        rw [hsame]
        have : (p.state = 1 ∧ 4 ≤ p.step) ∨ 2 ≤ p.state := by rw [p2, p3]; split <;> simp
        simp [this]
      · have := h.mem j hj
        simp only [Lock.setT_ps, Lock.setP_other _ _ e, List.mem_append, List.mem_singleton, e, or_false]
        exact this
    · by_cases e : j = i
      · subst e
        rw [hsame]
        intro _
        omega
      · simp only [Lock.setT_ps, Lock.setP_other _ _ e]
        exact h.pre j hj
    · cases Q with
      | nil =>
        unfold Line at hl
        show Line _ [i]
        unfold Line
        refine ⟨rfl, ?_, ?_⟩
        · unfold Head
          rw [hsame, p2, if_pos hl]
          exact .inr (.inl rfl)
        · unfold Links
          rw [hsame]; exact p4
      | cons a r =>
        unfold Line at hl
        show Line _ (a :: (r ++ [i]))
        unfold Line
        have ha := ho a (by simp)
        have ht : ¬ L.tail = -1 := by rw [hl.1]; omega
        refine ⟨?_, ?_, ?_⟩
        · rw [endOf_append]; rfl
        · unfold Head
          rw [ha]
          exact hl.2.1
        · exact hl.2.2.append ha (fun x hx => ho x (by simp [hx])) (by rw [hsame, p2, if_neg ht]) (by rw [hsame]; exact p5) (by rw [hsame]; exact p3) (by rw [hsame, p1]; exact hl.1) (by rw [hsame]; exact p4)
    · rw [hsame, p2]
      cases Q with
      | nil =>
        unfold Line at hl
        rw [if_pos hl]
        show [i] = if (2 : Int) = 2 then i :: rowOf _ [i] else _
        simp only [rowOf_cons]
        rw [hsame, p2, if_pos hl]
        simp
      | cons a r =>
        unfold Line at hl
        have ht : ¬ L.tail = -1 := by rw [hl.1]; omega
        rw [if_neg ht, if_neg (by omega)]
        show _ = rowOf _ (a :: (r ++ [i]))
        simp only [rowOf_cons]
        rw [ho a (by simp)]
        split <;> simp
  have hm : i ∈ Q := (h.mem i hi).2 (.inl ⟨hs, by omega⟩)
  rw [if_neg s1, if_neg s2, if_neg s3, if_neg s3]
  have hl := h.line
  cases Q with
  | nil => simp at hm
  | cons a r =>
    unfold Line at hl
    have hna := List.nodup_cons.1 h.nodup
    by_cases s4 : (L.ps i).step = 4
    · rw [if_pos s4]
      have hir : i ∈ r := by
        refine (List.mem_cons.1 hm).resolve_left ?_
        rintro rfl
        have h5 := hl.2.1
        unfold Head at h5
        omega
      obtain ⟨o, ho, hom⟩ := hl.2.2.prev hir s4
      have hto : (L.ps i).other.toNat = o := by omega
      rw [hto]
      have hio : i ≠ o := by
        rintro rfl
        -- the one ahead is another
        have : ∀ {r : List Nat} {a : Nat}, (a :: r).Nodup → Links L a r → i ∈ r → (L.ps i).step = 4 → (L.ps i).other ≠ i := by
          intro r
          induction r with
          | nil => intro a _ _ hi; simp at hi
          | cons b r ih =>
            intro a hn h hi hs
            unfold Links at h
            rcases List.mem_cons.1 hi with rfl | hi
            · rcases h.1.2.2 with e | e
              · rw [e.2.1]
                intro e
                have : a = i := by omega
                subst this
                exact (List.nodup_cons.1 hn).1 (by simp)
              · omega
            · exact ih (List.nodup_cons.1 hn).2 h.2 hi hs
        exact this h.nodup hl.2.2 hir s4 ho
      generalize hL' : (L.setP o { L.ps o with next := (i : Int) }).setP i { (L.setP o { L.ps o with next := (i : Int) }).ps i with step := 5 } = L'
      have hx : ∀ x, x ≠ i → x ≠ o → L'.ps x = L.ps x := fun x h1 h2 => by rw [← hL']; simp [Lock.ps_setP, h1, h2]
      have e1 : L'.ps i = { L.ps i with step := 5 } := by rw [← hL']; simp [Lock.ps_setP, hio]
      have e2 : L'.ps o = { L.ps o with next := (i : Int) } := by rw [← hL']; simp [Lock.ps_setP, hio.symm]
      have e3 : L'.n = L.n := by rw [← hL']; rfl
      have e4 : L'.tail = L.tail := by rw [← hL']; rfl
      clear hL'
      have hst : ∀ x, (L'.ps x).state = (L.ps x).state := fun x => by
        by_cases h1 : x = i
        · rw [h1, e1]
        · by_cases h2 : x = o
          · rw [h2, e2]
          · rw [hx x h1 h2]
      have hmem : ∀ x, x ≠ i → (L'.ps x).step = (L.ps x).step := fun x h1 => by
        by_cases h2 : x = o
        · rw [h2, e2]
        · rw [hx x h1 h2]
      refine ⟨a :: r, ⟨h.nodup, by rw [e3]; exact h.lt, fun j hj => ?_, fun j hj => ?_, ?_⟩, ?_⟩
      · rw [e3] at hj
        rw [h.mem j hj, hst]
        by_cases e : j = i
        · subst e; rw [e1, s4]; simp
        · rw [hmem j e]
      · rw [e3] at hj
        rw [hst]
        by_cases e : j = i
        · subst e; rw [e1]; intro _; simp
        · intro h5
          have hp := h.pre j hj h5
          rw [hmem j e]
          by_cases e5 : j = o
          · subst e5
            have := (h.mem j hj).1 hom
            refine ⟨fun _ => by omega, fun _ => by omega⟩
          · rw [hx j e e5]; exact hp
      · unfold Line
        refine ⟨by rw [e4]; exact hl.1, ?_, Links.link s4 ho hio hx e1 e2 h.nodup hir hl.2.2⟩
        have h5 := hl.2.1
        have hai : a ≠ i := by rintro rfl; exact hna.1 hir
        unfold Head at h5 ⊢
        by_cases hao : a = o
        · subst hao
          rw [e2]
          rcases h5 with h5 | h5 | h5
          · exact .inl h5
          · exact .inr (.inl h5)
          · refine .inr (.inr ⟨h5.1, fun h6 => ?_⟩)
            exfalso
            -- giving to the next one, who is not linked: no
            have h7 := h5.2 h6
            cases r with
            | nil => simp at hir
            | cons b r =>
              have hl2 := hl.2.2
              unfold Links at hl2
              rcases hl2.1.2.2 with e | e
              · exact h7.2 e.2.2
              · have hib : i ∈ r := by
                  refine (List.mem_cons.1 hir).resolve_left ?_
                  rintro rfl
                  omega
                obtain ⟨o', h8, h9⟩ := hl2.2.prev hib s4
                have : o' = a := by omega
                subst this
                exact hna.1 h9
        · rw [hx a hai hao]; exact h5
      · rw [hst, if_neg (by omega)]
        exact (rowOf_congr fun x _ => hst x).symm
    · rw [if_neg s4]
      cases hw : (L.ps i).waits with
      | true =>
        refine ⟨a :: r, h, ?_⟩
        simp only [if_true]
        rw [if_neg (by omega)]
      | false =>
        have hia : i = a := by
          rcases List.mem_cons.1 hm with e | e
          · exact e
          · have := (hl.2.2.each i e).2.1
            rw [hw] at this
            simp at this
        subst hia
        obtain ⟨h1, h2⟩ := h.setHead (p := { L.ps i with state := 2, step := (L.ps i).step + 1 }) rfl (by simp) (by simp)
        refine ⟨i :: r, h1, ?_⟩
        simp only [Bool.false_eq_true, if_false]
        rw [h2, Lock.setP_same, if_pos rfl]
        simp only [rowOf_cons]
        rw [if_neg (by omega)]

/-- A step of one that gives. -/
theorem Inv.give {L : Lock} {Q : List Nat} (h : Inv L Q) (ok : L.Ok) {i : Nat} (hi : i < L.n) (hs : (L.ps i).state = 3) :
    ∃ Q', Inv (L.give i) Q' ∧ rowOf (L.give i) Q' = rowOf L Q ∧ (Q' = Q ∨ ∃ r, Q = i :: r ∧ Q' = r) := by
  have hok := (ok.ps i).giving hs
  obtain ⟨r, rfl⟩ := h.first hi (by omega)
  have hl := h.line
  unfold Line at hl
  have hr : rowOf L (i :: r) = r := by rw [rowOf_cons]; rw [if_pos (by omega)]
  have hna := List.nodup_cons.1 h.nodup
  unfold Lock.give
  by_cases s1 : (L.ps i).step = 1
  · rw [if_pos s1]
    obtain ⟨h1, h2⟩ := h.setHead (p := { L.ps i with other := (L.ps i).next, step := if (L.ps i).next = -1 then 2 else 3 }) rfl (by simp [hs]) (.inr ⟨hs, fun h3 => ⟨rfl, by
      intro h4
      have h4' : (L.ps i).next = -1 := h4
      have h5 : (if (L.ps i).next = -1 then 2 else 3 : Int) = 3 := h3
      rw [if_pos h4'] at h5
      omega⟩⟩)
    exact ⟨i :: r, h1, by rw [h2, hr], .inl rfl⟩
  rw [if_neg s1]
  by_cases s2 : (L.ps i).step = 2
  · rw [if_pos s2]
    by_cases ht : L.tail = i
    · rw [if_pos ht]
      have hrn : r = [] := endOf_self h.nodup (by have := hl.1; omega)
      subst hrn
      refine ⟨[], ⟨by simp, by simp, fun j hj => ?_, fun j hj => ?_, rfl⟩, by rw [hr]; rfl, .inr ⟨[], rfl, rfl⟩⟩
      · by_cases e : j = i
        · subst e; simp [Lock.setP_same]
        · have := h.mem j hj
          simp only [Lock.setT_ps, Lock.setP_other _ _ e]
          rw [← this]
          simp [e]
      · by_cases e : j = i
        · subst e; simp [Lock.setP_same]
        · simp only [Lock.setT_ps, Lock.setP_other _ _ e]
          exact h.pre j hj
    · rw [if_neg ht]
      obtain ⟨h1, h2⟩ := h.setHead (p := { L.ps i with step := 1 }) rfl (by simp [hs]) (.inr ⟨hs, by simp⟩)
      exact ⟨i :: r, h1, by rw [h2, hr], .inl rfl⟩
  rw [if_neg s2]
  have s3 : (L.ps i).step = 3 := by omega
  have hh := hl.2.1
  unfold Head at hh
  have hh : (L.ps i).other = (L.ps i).next ∧ (L.ps i).next ≠ -1 := by
    rcases hh with e | e | e
    · omega
    · omega
    · exact e.2 s3
  cases r with
  | nil =>
    have h3 := hl.2.2
    unfold Links at h3
    exact absurd h3 hh.2
  | cons b r =>
    have h3 := hl.2.2
    unfold Links at h3
    obtain ⟨⟨b1, b2, b3⟩, h4⟩ := h3
    have hb : (L.ps b).step = 5 ∧ (L.ps i).next = b := by
      rcases b3 with e | e
      · exact absurd e.2.2 hh.2
      · exact e
    have hob : (L.ps i).other.toNat = b := by omega
    rw [hob]
    have hib : i ≠ b := by rintro rfl; exact hna.1 (by simp)
    have hnb := List.nodup_cons.1 hna.2
    generalize hL' : (L.setP b { L.ps b with waits := false }).setP i { (L.setP b { L.ps b with waits := false }).ps i with state := 0 } = L'
    have hx : ∀ x, x ≠ i → x ≠ b → L'.ps x = L.ps x := fun x h1 h2 => by rw [← hL']; simp [Lock.ps_setP, h1, h2]
    have e1 : L'.ps i = { L.ps i with state := 0 } := by rw [← hL']; simp [Lock.ps_setP, hib]
    have e2 : L'.ps b = { L.ps b with waits := false } := by rw [← hL']; simp [Lock.ps_setP, hib.symm]
    have e3 : L'.n = L.n := by rw [← hL']; rfl
    have e4 : L'.tail = L.tail := by rw [← hL']; rfl
    clear hL'
    refine ⟨b :: r, ⟨hna.2, by rw [e3]; exact fun j hj => h.lt j (by simp [hj]), fun j hj => ?_, fun j hj => ?_, ?_⟩, ?_, .inr ⟨b :: r, rfl, rfl⟩⟩
    · rw [e3] at hj
      have hm := h.mem j hj
      by_cases e : j = i
      · subst e
        rw [e1]
        simp [hna.1]
      · by_cases e5 : j = b
        · subst e5
          rw [e2]
          simp [b1, hb.1]
        · rw [hx j e e5, ← hm]
          simp [e]
    · rw [e3] at hj
      have hp := h.pre j hj
      by_cases e : j = i
      · subst e; rw [e1]; simp
      · by_cases e5 : j = b
        · subst e5; rw [e2]; simp only []; intro _; omega
        · rw [hx j e e5]; exact hp
    · unfold Line
      refine ⟨by rw [e4]; exact hl.1, ?_, h4.congr (by rw [e2]) (fun x hxr => hx x ?_ ?_)⟩
      · unfold Head
        rw [e2]
        exact .inl ⟨b1, hb.1, rfl⟩
      · rintro rfl; exact hna.1 (List.mem_cons_of_mem _ hxr)
      · rintro rfl; exact hnb.1 hxr
    · rw [hr]
      simp only [rowOf_cons]
      rw [e2, if_neg (by simp only []; omega)]
end Go.Proofs.Ythhcmilijiccmaa
