/- A row of tasks of which one is written anew: plain and in memory. No condition. -/
import Derived.Test.YtedhhohnbekelaaT
namespace Go.Proofs.Ytedhhohnbekelaa
open Go.RowKit Go.Deep

def setL (xs : List Value) : Nat → List Value → List Value
  | _, [] => xs
  | o, v :: vs => setL (xs.set o v) (o + 1) vs

theorem setL_len : ∀ (vs xs : List Value) (o : Nat), (setL xs o vs).length = xs.length
  | [], _, _ => rfl
  | v :: vs, xs, o => by
    unfold setL
    rw [setL_len vs, List.length_set]

theorem setL_at : ∀ (vs xs : List Value) (o k : Nat), o + vs.length ≤ xs.length → (setL xs o vs)[k]? = if o ≤ k ∧ k < o + vs.length then vs[k - o]? else xs[k]?
  | [], xs, o, k, _ => by
    unfold setL
    rw [if_neg (by first | (simp; done) | (simp; omega))]
  | v :: vs, xs, o, k, h => by
    simp only [List.length_cons] at h
    unfold setL
    rw [setL_at vs (xs.set o v) (o + 1) k (by rw [List.length_set]; omega), List.getElem?_set]
    simp only [List.length_cons]
    by_cases e : o = k
    · subst e
      rw [if_neg (by omega), if_pos rfl, if_pos (by omega), if_pos (by omega), Nat.sub_self]
      rfl
    · rw [if_neg e]
      by_cases h1 : o + 1 ≤ k ∧ k < o + 1 + vs.length
      · rw [if_pos h1, if_pos (by omega), show k - o = (k - (o + 1)) + 1 by omega]
        rfl
      · rw [if_neg h1, if_neg (by omega)]

theorem own_setCells {base e sz g n cap : Nat} : ∀ (vs : List Value) (o : Nat) (w : World) (xs : List Value), w.ownsRow base e sz (.slice (some ⟨g, 0, none⟩) n cap) n xs → (w.setCells g o vs).ownsRow base e sz (.slice (some ⟨g, 0, none⟩) n cap) n (setL xs o vs)
  | [], _, _, _, h => h
  | v :: vs, o, w, xs, h => own_setCells vs (o + 1) (w.setCell ⟨g, o, none⟩ v) (xs.set o v) (h.stored o v).1

theorem flat_set (ts : Nat → Tk) {n i : Nat} (hi : i < n) (t : Tk) : setL (flat ts n) (i * 29) (tkArr t).toList = flat (updT ts i t) n := by
  apply List.ext_getElem?
  intro k
  have hl : (tkArr t).toList.length = 29 := by rw [Array.length_toList, tkArr_size]
  rw [setL_at _ _ _ _ (by rw [hl, flat_len]; omega), hl]
  by_cases hk : k < n * 29
  · have ek : k = k / 29 * 29 + k % 29 := by omega
    by_cases h1 : i * 29 ≤ k ∧ k < i * 29 + 29
    · have e1 : k / 29 = i := by omega
      have h3 : (flat (updT ts i t) n)[i * 29 + (k - i * 29)]? = _ := flat_at (updT ts i t) (i := i) hi (by omega)
      rw [show i * 29 + (k - i * 29) = k by omega, updT_same] at h3
      rw [if_pos h1, h3, Array.getElem?_toList, tkArr_at t (by omega)]
    · rw [if_neg h1]
      conv => lhs; rw [ek]
      conv => rhs; rw [ek]
      rw [flat_at ts (i := k / 29) (by omega) (by omega), flat_at _ (i := k / 29) (by omega) (by omega), updT_other _ _ (by omega)]
  · rw [if_neg (by omega), List.getElem?_eq_none (by rw [flat_len]; omega), List.getElem?_eq_none (by rw [flat_len]; omega)]
end Go.Proofs.Ytedhhohnbekelaa
