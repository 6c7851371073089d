/- A task that has exited stays, whatever is done: plain. No condition. -/
import Derived.Test.YtedhhohnbekelaaX
namespace Go.Proofs.Ytedhhohnbekelaa

/-- An operation: its kind, its task, its two numbers. -/
structure Opn where
  kind : Int
  x : Tk
  id : Int
  on : Int

/-- The table as it counts: how many, which, and who waits for whom. -/
structure Tb where
  n : Nat
  ts : Nat → Tk
  R : Nat → List Nat

/-- What one operation of the law TableStays makes of it. -/
def stayD (room : Nat) (d : Tb) (o : Opn) : Tb :=
  if o.kind % 3 = 0 then ⟨(addD d.n room d.ts o.x).2.2.1, (addD d.n room d.ts o.x).2.2.2, d.R⟩
  else if o.kind % 3 = 1 then ⟨d.n, (setD d.n d.ts o.id o.x).2, d.R⟩
  else ⟨d.n, d.ts, (joinD d.n room d.ts d.R o.id o.on).2⟩

theorem stay_first {room : Nat} {d : Tb} (o : Opn) (h0 : 0 < d.n) (h8 : d.ts 0 25 = 8) : 0 < (stayD room d o).n ∧ (stayD room d o).ts 0 = d.ts 0 := by
  unfold stayD
  split
  · unfold addD
    split
    · exact ⟨h0, rfl⟩
    · split
      · exact ⟨h0, rfl⟩
      · exact ⟨by simp only; omega, updT_other _ _ (by omega)⟩
  · split
    · refine ⟨h0, ?_⟩
      simp only
      unfold setD
      split
      · rfl
      · rename_i hi
        split
        · rfl
        · split
          · rfl
          · rename_i hne
            refine updT_other _ _ (fun e => ?_)
            have : o.id.toNat = 0 := e.symm
            rw [this] at hne
            exact hne h8
    · exact ⟨h0, rfl⟩
end Go.Proofs.Ytedhhohnbekelaa
