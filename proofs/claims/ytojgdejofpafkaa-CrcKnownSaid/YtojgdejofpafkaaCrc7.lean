/- The Crc laws' own examples (works). -/
import Derived.Test.YtojgdejofpafkaaCrc6
import Derived.Lib.SlBytesConst
namespace Go.Proofs.Ytojgdejofpafkaa
open Go.RowKit
set_option linter.unusedVariables false

/-- A literal row of bytes, as it is laid. -/
def litB (b : Nat) (xs : List UInt8) (fr : Nat × Nat := (0, 0)) : HProp := own b (.cells (xs.map B).toArray 5 fr)

theorem litB_at {u w : World} {F : HProp} {b : Nat} {xs : List UInt8} {fr : Nat × Nat} (h : Sat u w (litB b xs fr * F)) (hl : xs.length ≤ 1000000000) : BytesAt w (.slice (some ⟨b, 0, none⟩) xs.length xs.length) xs := by
  unfold litB at h
  refine .inr ⟨_, _, rfl, Nat.le_refl _, by unfold maxLen; omega, fun j v hv => ?_⟩
  rw [addr_add, h.cell]
  simpa using hv

theorem fix1 : fixB [1, 2, 3, 4, 0, 0] 0 4294967295#32 = [255, 255, 255, 255, 0, 0] := by decide +kernel
theorem sum1 : sumB [49, 50, 51, 52, 53, 54, 55, 56, 57] = 4236843288#32 := by decide +kernel
theorem sum2 : sumB [255, 255, 255, 254] = 4215202376#32 := by decide +kernel

set_option maxHeartbeats 2000000 in
theorem works_any (u w : World) (F : HProp) (hs : Sat u w F) : Calls Try.prog 15 #[] w fun e w' => e = .returned (.bool true) ∧ Sat u w' F := by
  go_enter Try.func15, Try.ntmps15
  go_wp2_with fail
  have h1 : Sat u _ (litB w.heap.size [1, 2, 3, 4, 0, 0] * F) := hs.alloc (.cells #[.int .u8 1, .int .u8 2, .int .u8 3, .int .u8 4, .int .u8 0, .int .u8 0] 5)
  refine (cfix_any u _ _ _ [1, 2, 3, 4, 0, 0] 0 4294967295#32 (litB_at h1 (by decide)) h1 (by decide) (by decide) (by decide) (fun w' h => litB_at h (by decide))).mono ?_
  rintro e w1 (⟨_, _, a1, c1, rfl, h2⟩ | ⟨hno, _⟩)
  rotate_left
  · exact absurd ⟨by decide, by decide⟩ hno
  dsimp only
  clear h1
  rw [show Int.toNat 0 = 0 from rfl, fix1] at h2
  go_wp2_with fail
  have h3 : Sat u _ (litB w1.heap.size [1, 2, 3] * _) := h2.alloc (.cells #[.int .u8 1, .int .u8 2, .int .u8 3] 5)
  refine (cfix_any u _ _ _ [1, 2, 3] 0 5#32 (litB_at h3 (by decide)) h3 (by decide) (by decide) (by decide) (fun w' h => litB_at h (by decide))).mono ?_
  rintro e w2 (⟨_, h0, _⟩ | ⟨hno, rfl, h4⟩)
  · exact absurd h0 (by decide)
  dsimp only
  clear h3 hno h2
  have e1 : ([1, 2, 3, 4, 0, 0] : List UInt8).length = 6 := rfl
  rw [e1] at h4
  clear e1
  have cv := Lib.run_convert_bytes_const (P := Try.prog) w2 22 5 #[.int .u8 49, .int .u8 50, .int .u8 51, .int .u8 52, .int .u8 53, .int .u8 54, .int .u8 55, .int .u8 56, .int .u8 57] 9 9 Try.underlying22 Try.underlying5
  go_wp2_with fail
  clear cv
  have h5 : Sat u _ (litB w2.heap.size [49, 50, 51, 52, 53, 54, 55, 56, 57] (9, 10) * _) := h4.alloc (.cells #[.int .u8 49, .int .u8 50, .int .u8 51, .int .u8 52, .int .u8 53, .int .u8 54, .int .u8 55, .int .u8 56, .int .u8 57] 5 (9, 10))
  refine (sum_any _ _ [49, 50, 51, 52, 53, 54, 55, 56, 57] (litB_at h5 (by decide))).mono ?_
  rintro e w3 ⟨rfl, hw3⟩
  rw [← hw3]
  clear hw3
  rw [sum1]
  dsimp only
  generalize w2.alloc _ = w4 at h5 ⊢
  go_wp2_with fail
  have h6 : Sat u _ (litB w4.heap.size [255, 255, 255, 254] * _) := h5.alloc (.cells #[.int .u8 255, .int .u8 255, .int .u8 255, .int .u8 254] 5)
  refine (sum_any _ _ [255, 255, 255, 254] (litB_at h6 (by decide))).mono ?_
  rintro e w5 ⟨rfl, hw5⟩
  rw [← hw5]
  clear hw5
  rw [sum2]
  dsimp only
  generalize w4.alloc _ = w6 at h6 ⊢
  have cs := run_string_of (P := Try.prog) (h6.right.right.right.bytes) 22 9 5 Try.underlying22 Try.underlying5 Try.underlying9
  rw [show str [255, 255, 255, 255, 0, 0] = ⟨#[255, 255, 255, 255, 0, 0]⟩ from rfl] at cs
  go_wp2_with fail
  go_ret
  exact ⟨rfl, h6.right.right.right.right.right⟩
end Go.Proofs.Ytojgdejofpafkaa
