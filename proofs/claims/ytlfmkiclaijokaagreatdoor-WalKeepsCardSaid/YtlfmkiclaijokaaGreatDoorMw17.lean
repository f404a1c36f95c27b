/- Which errors a disk's calls answer: plain laws. No program in sight. -/
import Derived.Test.YtlfmkiclaijokaaGreatDoorMw3
namespace Go.Proofs.YtlfmkiclaijokaaGreatDoor

def okErr (e : Int) : Prop := e = 0 ∨ e = 2 ∨ e = 3 ∨ e = 5 ∨ e = 40 ∨ e = 41

theorem okErr.range {e : Int} (h : okErr e) : -9223372036854775808 ≤ e ∧ e ≤ 9223372036854775807 := by
  unfold okErr at h
  omega

theorem bars_err (d : DiskP) (ns : List Bs) : okErr (barsD d ns) := by
  unfold barsD okErr
  split
  · simp
  · split <;> simp

theorem dries_err (d : DiskP) (a b : Bs) (left : Bs → Bs × Int) (h : ∀ x, okErr (left x).2) : okErr (driesD d a b left).1 := by
  unfold driesD
  split
  · exact bars_err d _
  · split
    · simp [okErr]
    · split
      · exact h _
      · split <;> simp [okErr]

theorem whole_err : ∀ x, okErr (wholeL x).2 := fun _ => .inl rfl
theorem cut_err (n : Int) : ∀ x, okErr (cutL n x).2 := fun _ => by
  unfold cutL
  split <;> simp [okErr]

theorem append_err (d : DiskP) (n b : Bs) : okErr (appendD d n b).1 := by
  have h : okErr (appE d n b) := by
    unfold appE
    split
    · exact bars_err d _
    · split
      · simp [okErr]
      · split <;> simp [okErr]
  unfold appendD
  split
  · exact h
  · dsimp only
    split <;> simp [okErr]

theorem remove_err (d : DiskP) (n : Bs) : okErr (removeD d n).1 := by
  unfold removeD
  split
  · exact bars_err d _
  · split
    · split <;> simp [okErr]
    · simp [okErr]

theorem nameW_len (g : Nat) : (nameW g).length ≤ 24 := by
  have : ∀ n g, (decF n g).length ≤ n := fun n => by
    induction n with
    | zero => intro g; exact Nat.le_refl _
    | succ n ih =>
      intro g
      unfold decF
      split
      · simp
      · rw [List.length_append]
        have := ih (g / 10)
        simp
        omega
  unfold nameW
  rw [List.length_append]
  have := this 20 g
  show 4 + _ ≤ 24
  omega
end Go.Proofs.YtlfmkiclaijokaaGreatDoor
