/- A piece's bytes; the reference's Place. -/
import Derived.Test.YtojgdejofpafkaaFields5
namespace Go.Proofs.Ytojgdejofpafkaa
open Go.RowKit

theorem str_pb0 (k n : Int) (s : ByteArray) (h : wd k = 0) : str (pb k n s) = s := by
  unfold pb
  rw [if_pos h, str_of]

theorem str_pbW (k n : Int) (s : ByteArray) {m : Nat} (h : wd k = m) (hm : m ≠ 0) : pb k n s = be m (U n) := by
  subst h
  unfold pb
  rw [if_neg hm]

set_option maxHeartbeats 1000000 in
theorem bytes0 (u w : World) (F : HProp) (k n : Int) (s : ByteArray) (h0 : 0 ≤ k) (h1 : k < 256) (hwd : wd k = 0) (hs : Sat u w F) :
    Calls Try.prog 23 #[.agg #[.int .u8 k, .int .i64 n, .string s]] w fun e w' => e = .returned (.string (str (pb k n s))) ∧ Sat u w' F := by
  rw [str_pb0 k n s hwd]
  have hs1 := (hs.alloc (.cells #[.int .u8 k, .int .i64 n, .string s] 40))
  go_enter Try.func23, Try.ntmps23
  go_wp2_with fail
  refine (wide_any u _ _ k n s h0 h1 hs1).mono ?_
  rintro e w1 ⟨rfl, h2⟩
  have c2 := h2.cell 2
  go_wp2
  go_ret
  exact ⟨rfl, h2.right⟩

set_option maxHeartbeats 1000000 in
theorem bytes1 (u w : World) (F : HProp) (k n : Int) (s : ByteArray) (h0 : 0 ≤ k) (h1 : k < 256) (hwd : wd k = 1) (hs : Sat u w F) :
    Calls Try.prog 23 #[.agg #[.int .u8 k, .int .i64 n, .string s]] w fun e w' => e = .returned (.string (str (pb k n s))) ∧ Sat u w' F := by
  rw [str_pbW k n s hwd (by decide)]
  have hs1 := (hs.alloc (.cells #[.int .u8 k, .int .i64 n, .string s] 40))
  go_enter Try.func23, Try.ntmps23
  go_wp2_with fail
  refine (wide_any u _ _ k n s h0 h1 hs1).mono ?_
  rintro e w1 ⟨rfl, h2⟩
  have c0 := h2.cell 0
  have c1 := h2.cell 1
  have c2 := h2.cell 2
  go_wp2
  go_region_with (first
      | (go_at_call 30; refine (wide_any u _ _ k n s h0 h1 (by exact h2.drew)).mono ?_; rintro e w2 ⟨rfl, h3⟩; have d1 := h3.cell 1)
      | (go_at_call 47; rw [wrap_u64]; refine (refBytes1 u _ _ _ (by omega) (by omega) (by exact h3)).mono ?_; rintro e w3 ⟨a, c, rfl, h4⟩; have hcv := run_string_of (P := Try.prog) (show BytesAt w3 (.slice a 1 c) (be 1 (n % 18446744073709551616).toNat) from h4.bytes) 22 9 5 Try.underlying22 Try.underlying5 Try.underlying9))
  all_goals go_wp2
  all_goals go_ret
  all_goals exact ⟨rfl, h4.right.right⟩

set_option maxHeartbeats 1000000 in
theorem bytes2 (u w : World) (F : HProp) (k n : Int) (s : ByteArray) (h0 : 0 ≤ k) (h1 : k < 256) (hwd : wd k = 2) (hs : Sat u w F) :
    Calls Try.prog 23 #[.agg #[.int .u8 k, .int .i64 n, .string s]] w fun e w' => e = .returned (.string (str (pb k n s))) ∧ Sat u w' F := by
  rw [str_pbW k n s hwd (by decide)]
  have hs1 := (hs.alloc (.cells #[.int .u8 k, .int .i64 n, .string s] 40))
  go_enter Try.func23, Try.ntmps23
  go_wp2_with fail
  refine (wide_any u _ _ k n s h0 h1 hs1).mono ?_
  rintro e w1 ⟨rfl, h2⟩
  have c0 := h2.cell 0
  have c1 := h2.cell 1
  have c2 := h2.cell 2
  go_wp2
  go_region_with (first
      | (go_at_call 30; refine (wide_any u _ _ k n s h0 h1 (by exact h2.drew)).mono ?_; rintro e w2 ⟨rfl, h3⟩; have d1 := h3.cell 1)
      | (go_at_call 47; rw [wrap_u64]; refine (refBytes2 u _ _ _ (by omega) (by omega) (by exact h3)).mono ?_; rintro e w3 ⟨a, c, rfl, h4⟩; have hcv := run_string_of (P := Try.prog) (show BytesAt w3 (.slice a 2 c) (be 2 (n % 18446744073709551616).toNat) from h4.bytes) 22 9 5 Try.underlying22 Try.underlying5 Try.underlying9))
  all_goals go_wp2
  all_goals go_ret
  all_goals exact ⟨rfl, h4.right.right⟩

set_option maxHeartbeats 1000000 in
theorem bytes4 (u w : World) (F : HProp) (k n : Int) (s : ByteArray) (h0 : 0 ≤ k) (h1 : k < 256) (hwd : wd k = 4) (hs : Sat u w F) :
    Calls Try.prog 23 #[.agg #[.int .u8 k, .int .i64 n, .string s]] w fun e w' => e = .returned (.string (str (pb k n s))) ∧ Sat u w' F := by
  rw [str_pbW k n s hwd (by decide)]
  have hs1 := (hs.alloc (.cells #[.int .u8 k, .int .i64 n, .string s] 40))
  go_enter Try.func23, Try.ntmps23
  go_wp2_with fail
  refine (wide_any u _ _ k n s h0 h1 hs1).mono ?_
  rintro e w1 ⟨rfl, h2⟩
  have c0 := h2.cell 0
  have c1 := h2.cell 1
  have c2 := h2.cell 2
  go_wp2
  go_region_with (first
      | (go_at_call 30; refine (wide_any u _ _ k n s h0 h1 (by exact h2.drew)).mono ?_; rintro e w2 ⟨rfl, h3⟩; have d1 := h3.cell 1)
      | (go_at_call 47; rw [wrap_u64]; refine (refBytes4 u _ _ _ (by omega) (by omega) (by exact h3)).mono ?_; rintro e w3 ⟨a, c, rfl, h4⟩; have hcv := run_string_of (P := Try.prog) (show BytesAt w3 (.slice a 4 c) (be 4 (n % 18446744073709551616).toNat) from h4.bytes) 22 9 5 Try.underlying22 Try.underlying5 Try.underlying9))
  all_goals go_wp2
  all_goals go_ret
  all_goals exact ⟨rfl, h4.right.right⟩

set_option maxHeartbeats 1000000 in
theorem bytes8 (u w : World) (F : HProp) (k n : Int) (s : ByteArray) (h0 : 0 ≤ k) (h1 : k < 256) (hwd : wd k = 8) (hs : Sat u w F) :
    Calls Try.prog 23 #[.agg #[.int .u8 k, .int .i64 n, .string s]] w fun e w' => e = .returned (.string (str (pb k n s))) ∧ Sat u w' F := by
  rw [str_pbW k n s hwd (by decide)]
  have hs1 := (hs.alloc (.cells #[.int .u8 k, .int .i64 n, .string s] 40))
  go_enter Try.func23, Try.ntmps23
  go_wp2_with fail
  refine (wide_any u _ _ k n s h0 h1 hs1).mono ?_
  rintro e w1 ⟨rfl, h2⟩
  have c0 := h2.cell 0
  have c1 := h2.cell 1
  have c2 := h2.cell 2
  go_wp2
  go_region_with (first
      | (go_at_call 30; refine (wide_any u _ _ k n s h0 h1 (by exact h2.drew)).mono ?_; rintro e w2 ⟨rfl, h3⟩; have d1 := h3.cell 1)
      | (go_at_call 47; rw [wrap_u64]; refine (refBytes8 u _ _ _ (by omega) (by omega) (by exact h3)).mono ?_; rintro e w3 ⟨a, c, rfl, h4⟩; have hcv := run_string_of (P := Try.prog) (show BytesAt w3 (.slice a 8 c) (be 8 (n % 18446744073709551616).toNat) from h4.bytes) 22 9 5 Try.underlying22 Try.underlying5 Try.underlying9))
  all_goals go_wp2
  all_goals go_ret
  all_goals exact ⟨rfl, h4.right.right⟩

theorem bytes_any (u w : World) (F : HProp) (k n : Int) (s : ByteArray) (h0 : 0 ≤ k) (h1 : k < 256) (hs : Sat u w F) :
    Calls Try.prog 23 #[.agg #[.int .u8 k, .int .i64 n, .string s]] w fun e w' => e = .returned (.string (str (pb k n s))) ∧ Sat u w' F := by
  have h5 : k % 5 = 0 ∨ k % 5 = 1 ∨ k % 5 = 2 ∨ k % 5 = 3 ∨ k % 5 = 4 := by omega
  rcases h5 with h5 | h5 | h5 | h5 | h5
  · exact bytes1 u w F k n s h0 h1 (by simp only [wd, h5, if_true]) hs
  · exact bytes2 u w F k n s h0 h1 (by simp only [wd, h5, if_true, if_false, Int.reduceEq]) hs
  · exact bytes4 u w F k n s h0 h1 (by simp only [wd, h5, if_true, if_false, Int.reduceEq]) hs
  · exact bytes8 u w F k n s h0 h1 (by simp only [wd, h5, if_true, if_false, Int.reduceEq]) hs
  · exact bytes0 u w F k n s h0 h1 (by simp only [wd, h5, if_false, Int.reduceEq]) hs
end Go.Proofs.Ytojgdejofpafkaa
