/- What the statements of layer 3 are made of: Piece's methods, the reference. -/
import Derived.Test.YtojgdejofpafkaaFields3
import Derived.Deep.RegionHeld3
import Derived.Test.YtojgdejofpafkaaSepScr
namespace Go.Proofs.Ytojgdejofpafkaa
open Go.RowKit

/-- How many bytes a piece has that is a number; 0: it is a row of bytes. -/
def wd (k : Int) : Nat := if k % 5 = 0 then 1 else if k % 5 = 1 then 2 else if k % 5 = 2 then 4 else if k % 5 = 3 then 8 else 0

def piece (k n : Int) (s : ByteArray) : Value := .agg #[.int .u8 k, .int .i64 n, .string s]

set_option maxHeartbeats 1000000 in
theorem wide_any (u w : World) (F : HProp) (k n : Int) (s : ByteArray) (h0 : 0 ≤ k) (h1 : k < 256) (hs : Sat u w F) :
    Calls Try.prog 30 #[.agg #[.int .u8 k, .int .i64 n, .string s]] w fun e w' => e = .returned (.int .i64 (wd k)) ∧ Sat u w' F := by
  have h5 : k % 5 = 0 ∨ k % 5 = 1 ∨ k % 5 = 2 ∨ k % 5 = 3 ∨ k % 5 = 4 := by omega
  have hs1 := ((hs.alloc (.cells #[.int .u8 k, .int .i64 n, .string s] 40)).right.alloc (.cells #[.int .i64 1, .int .i64 2, .int .i64 4, .int .i64 8, .int .i64 0] 3)).right
  rcases h5 with h5 | h5 | h5 | h5 | h5
  all_goals
    simp only [wd, h5, if_true, if_false, Int.reduceEq]
    go_enter Try.func30, Try.ntmps30
    go_wp2
    go_ret
    exact ⟨rfl, hs1⟩

theorem wrap_u64 (n : Int) : IntKind.u64.wrap n = n % 18446744073709551616 := rfl

/-- A number as so many bytes have it. -/
def U (n : Int) : Nat := (n % 18446744073709551616).toNat

theorem be_U (k : Nat) (m n : Int) (hk : k ≤ 8) (hm : m = ((256 ^ k : Nat) : Int)) : be k (n % m).toNat = be k (U n) := by
  have h : (n % m).toNat = U n % 256 ^ k := by
    subst hm
    unfold U
    have hd : ((256 ^ k : Nat) : Int) ∣ 18446744073709551616 := by
      have : (18446744073709551616 : Int) = ((256 ^ (8 - k) * 256 ^ k : Nat) : Int) := by
        rw [← Nat.pow_add, Nat.sub_add_cancel hk]; rfl
      rw [this]
      exact ⟨((256 ^ (8 - k) : Nat) : Int), by rw [Int.natCast_mul, Int.mul_comm]⟩
    have h1 : (n % 18446744073709551616) % ((256 ^ k : Nat) : Int) = n % ((256 ^ k : Nat) : Int) := Int.emod_emod_of_dvd n hd
    rw [← h1]
    have h2 : 0 ≤ n % 18446744073709551616 := by omega
    obtain ⟨a, ha⟩ := Int.eq_ofNat_of_zero_le h2
    rw [ha, Int.toNat_natCast, ← Int.natCast_emod, Int.toNat_natCast]
  rw [h, be_mod]

/-- The bytes of a piece. -/
def pb (k n : Int) (s : ByteArray) : List UInt8 := if wd k = 0 then s.data.toList else be (wd k) (U n)

set_option maxHeartbeats 1000000 in
theorem put_any (u w : World) (F : HProp) (p : Nat) (xs : List UInt8) (k n : Int) (s : ByteArray) (h0 : 0 ≤ k) (h1 : k < 256) (hs : Sat u w (isW p xs * F)) (hsz : xs.length + 8 + s.size ≤ 1000000000) :
    Calls Try.prog 22 #[.agg #[.int .u8 k, .int .i64 n, .string s], .pointer (some ⟨p, 0, none⟩)] w fun e w' => e = .returned (.tuple #[]) ∧ Sat u w' (isW p (xs ++ pb k n s) * F) := by
  have h5 : k % 5 = 0 ∨ k % 5 = 1 ∨ k % 5 = 2 ∨ k % 5 = 3 ∨ k % 5 = 4 := by omega
  have hs1 := (hs.alloc (.cells #[.int .u8 k, .int .i64 n, .string s] 40))
  rcases h5 with h5 | h5 | h5 | h5 | h5
  · have hwd : wd k = 1 := by simp only [wd, h5, if_true, if_false, Int.reduceEq]
    have hpb : pb k n s = be 1 (U n) := by simp only [pb, hwd]; rfl
    rw [hpb, ← be_U 1 256 n (by decide) rfl]
    clear hpb h5
    go_enter Try.func22, Try.ntmps22
    go_wp2_with fail
    refine (wide_any u _ _ k n s h0 h1 hs1).mono ?_
    rintro e w1 ⟨rfl, h2⟩
    have c1 := h2.cell 1
    have h3 := h2.right
    go_wp2_with fail
    refine (byte_any u _ F p xs _ (by omega) (by omega) h3 (by omega)).mono ?_
    rintro e w2 ⟨rfl, h4⟩
    go_wp2
    go_end0
    exact ⟨rfl, h4⟩
  · have hwd : wd k = 2 := by simp only [wd, h5, if_true, if_false, Int.reduceEq]
    have hpb : pb k n s = be 2 (U n) := by simp only [pb, hwd]; rfl
    rw [hpb, ← be_U 2 65536 n (by decide) rfl]
    clear hpb h5
    go_enter Try.func22, Try.ntmps22
    go_wp2_with fail
    refine (wide_any u _ _ k n s h0 h1 hs1).mono ?_
    rintro e w1 ⟨rfl, h2⟩
    have c1 := h2.cell 1
    have h3 := h2.right
    go_wp2_with fail
    rw [wrap_u16]
    refine (short_any u _ F p xs _ (by omega) (by omega) h3 (by omega)).mono ?_
    rintro e w2 ⟨rfl, h4⟩
    go_wp2
    go_end0
    exact ⟨rfl, h4⟩
  · have hwd : wd k = 4 := by simp only [wd, h5, if_true, if_false, Int.reduceEq]
    have hpb : pb k n s = be 4 (U n) := by simp only [pb, hwd]; rfl
    rw [hpb, ← be_U 4 4294967296 n (by decide) rfl]
    clear hpb h5
    go_enter Try.func22, Try.ntmps22
    go_wp2_with fail
    refine (wide_any u _ _ k n s h0 h1 hs1).mono ?_
    rintro e w1 ⟨rfl, h2⟩
    have c1 := h2.cell 1
    have h3 := h2.right
    go_wp2_with fail
    refine (word_any u _ F p xs _ (by omega) (by omega) h3 (by omega)).mono ?_
    rintro e w2 ⟨rfl, h4⟩
    go_wp2
    go_end0
    exact ⟨rfl, h4⟩
  · have hwd : wd k = 8 := by simp only [wd, h5, if_true, if_false, Int.reduceEq]
    have hpb : pb k n s = be 8 (U n) := by simp only [pb, hwd]; rfl
    rw [hpb, ← be_U 8 18446744073709551616 n (by decide) rfl]
    clear hpb h5
    go_enter Try.func22, Try.ntmps22
    go_wp2_with fail
    refine (wide_any u _ _ k n s h0 h1 hs1).mono ?_
    rintro e w1 ⟨rfl, h2⟩
    have c1 := h2.cell 1
    have h3 := h2.right
    go_wp2_with fail
    rw [wrap_u64]
    refine (long_any u _ F p xs _ (by omega) (by omega) h3 (by omega)).mono ?_
    rintro e w2 ⟨rfl, h4⟩
    go_wp2
    go_end0
    exact ⟨rfl, h4⟩
  · have hwd : wd k = 0 := by simp only [wd, h5, if_false, Int.reduceEq]
    have hpb : pb k n s = s.data.toList := by simp only [pb, hwd]; rfl
    have hl : s.data.toList.length = s.size := Array.length_toList
    rw [hpb]
    clear hpb h5
    go_enter Try.func22, Try.ntmps22
    go_wp2_with fail
    refine (wide_any u _ _ k n s h0 h1 hs1).mono ?_
    rintro e w1 ⟨rfl, h2⟩
    have c1 := h2.cell 2
    have h3 := h2.right
    go_wp2_with (refine wpList_toBytes rfl 9 22 5 _ rfl s rfl Try.underlying9 Try.underlying22 Try.underlying5 h3 (by omega) ?_; intro a' c' w2 h4)
    refine (raw_any u _ _ p xs s.data.toList _ h4.s2 h4.ownT_at (by omega)).mono ?_
    rintro e w3 ⟨rfl, h5⟩
    dsimp only
    obtain ⟨g, rfl, hm, h6⟩ := h5.s2.scr_ofT
    rw [hl] at h6
    clear hs hs1 h2 c1 h3 h4 h5 hl hwd hm
    go_wp2
    go_loopw [5] (fun i wr => ∃ j : Nat, j ≤ s.size ∧ i = .int .i64 j ∧ Sat u wr (scr 5 g s.size * (isW p (xs ++ s.data.toList) * F))) (fun i _ => s.size - (intOf i).toNat)
    case atStart => exact ⟨0, Nat.zero_le _, rfl, h6⟩
    case round =>
      obtain ⟨j, hj, rfl, h7⟩ := hrel
      by_cases hlt : j < s.size
      · obtain ⟨x, hx, hf⟩ := h7.scr_get hlt
        have h8 := h7.scr_set j (bits .xor .u8 x 255)
        go_wp2
        go_roundw
        case rel => exact ⟨j + 1, hlt, by go_num, h8⟩
        case measure => simp [intOf]; omega
      · go_wp2
        go_end0
        exact ⟨rfl, h7.right⟩
end Go.Proofs.Ytojgdejofpafkaa
