/- crc.on, off, behind, Sum. -/
import Derived.Test.YtojgdejofpafkaaCrc2
import Derived.Test.YtojgdejofpafkaaFields13
import Derived.Laws.BitsAllLaws
namespace Go.Proofs.Ytojgdejofpafkaa
open Go.RowKit
set_option linter.unusedVariables false

/-- A rest, as the program holds it. -/
abbrev w32 (r : BitVec 32) : Value := .int .u32 (r.toNat : Int)

theorem xor32 (a b : BitVec 32) : bits .xor .u32 (a.toNat : Int) (b.toNat : Int) = ((a ^^^ b).toNat : Int) := by
  rw [u32_xor_nat _ _ a.isLt b.isLt, BitVec.toNat_xor]
theorem and32 (a b : BitVec 32) : bits .and .u32 (a.toNat : Int) (b.toNat : Int) = ((a &&& b).toNat : Int) := by
  rw [u32_and_nat _ _ a.isLt b.isLt, BitVec.toNat_and]
theorem or32 (a b : BitVec 32) : bits .or .u32 (a.toNat : Int) (b.toNat : Int) = ((a ||| b).toNat : Int) := by
  rw [u32_or_nat _ _ a.isLt b.isLt, BitVec.toNat_or]
theorem wrap32 (n : Int) : IntKind.u32.wrap n = n % 4294967296 := rfl
theorem shl32 (r : BitVec 32) (k : Nat) : IntKind.u32.wrap ((r.toNat : Int) * 2 ^ k) = ((r <<< k).toNat : Int) := by
  rw [wrap32, BitVec.toNat_shiftLeft, Nat.shiftLeft_eq]
  rw [Int.natCast_emod, Int.natCast_mul, Int.natCast_pow]
  rfl

theorem mul2 (r : BitVec 32) : HMod.hMod (HMul.hMul (r.toNat : Int) (2 : Int)) (4294967296 : Int) = Int.ofNat (r <<< 1).toNat := by
  rw [BitVec.toNat_shiftLeft, Nat.shiftLeft_eq]
  show _ = ((r.toNat * 2 ^ 1 % 2 ^ 32 : Nat) : Int)
  omega
theorem div2 (r : BitVec 32) : HDiv.hDiv (r.toNat : Int) (2 : Int) = Int.ofNat (r >>> 1).toNat := by
  rw [BitVec.toNat_ushiftRight, Nat.shiftRight_eq_div_pow]
  show _ = ((r.toNat / 2 ^ 1 : Nat) : Int)
  omega

theorem bit31 (r : BitVec 32) : (r &&& 2147483648#32) = if r.getLsbD 31 then 2147483648#32 else 0#32 := by
  have e : (2147483648#32 : BitVec 32) = BitVec.twoPow 32 31 := by decide
  rw [e]
  exact BitVec.and_twoPow r 31
theorem bit0 (r : BitVec 32) : (r &&& 1#32) = if r.getLsbD 0 then 1#32 else 0#32 := by
  have e : (1#32 : BitVec 32) = BitVec.twoPow 32 0 := by decide
  rw [e]
  exact BitVec.and_twoPow r 0

theorem on_any (w : World) (r : BitVec 32) : Calls Try.prog 49 #[w32 r] w fun e w' => e = .returned (w32 (onB r)) ∧ w = w' := by
  have hand : bits .and .u32 (r.toNat : Int) 2147483648 = ((r &&& 2147483648#32).toNat : Int) := and32 r 2147483648#32
  rw [bit31] at hand
  cases h : r.getLsbD 31 with
  | true =>
    have ho : onB r = r <<< 1 ^^^ 79764919#32 := by unfold onB; rw [h]; rfl
    rw [h, if_pos rfl] at hand
    rw [ho]
    clear ho h
    have hand' : bits .and .u32 (r.toNat : Int) 2147483648 = 2147483648 := hand
    clear hand
    go_enter Try.func49, Try.ntmps49
    go_wp2
    go_ret
    refine ⟨?_, rfl⟩
    show Ending.returned (.int .u32 (bits .xor .u32 ((r.toNat : Int) * 2 % 4294967296) 79764919)) = _
    rw [mul2]
    exact congrArg (fun x => Ending.returned (.int .u32 x)) (xor32 _ 79764919#32)
  | false =>
    have ho : onB r = r <<< 1 := by unfold onB; rw [h]; simp
    rw [h] at hand
    rw [ho]
    clear ho h
    have hand' : bits .and .u32 (r.toNat : Int) 2147483648 = 0 := hand
    clear hand
    go_enter Try.func49, Try.ntmps49
    go_wp2
    go_ret
    refine ⟨?_, rfl⟩
    show Ending.returned (.int .u32 ((r.toNat : Int) * 2 % 4294967296)) = _
    rw [mul2]
    rfl

theorem off_any (w : World) (r : BitVec 32) : Calls Try.prog 52 #[w32 r] w fun e w' => e = .returned (w32 (offB r)) ∧ w = w' := by
  have hand : bits .and .u32 (r.toNat : Int) 1 = ((r &&& 1#32).toNat : Int) := and32 r 1#32
  rw [bit0] at hand
  cases h : r.getLsbD 0 with
  | true =>
    have ho : offB r = ((r ^^^ 79764919#32) >>> 1) ||| 2147483648#32 := by unfold offB; rw [h]; rfl
    rw [h, if_pos rfl] at hand
    rw [ho]
    clear ho h
    have hand' : bits .and .u32 (r.toNat : Int) 1 = 1 := hand
    clear hand
    go_enter Try.func52, Try.ntmps52
    go_wp2
    go_ret
    refine ⟨?_, rfl⟩
    show Ending.returned (.int .u32 (bits .or .u32 (bits .xor .u32 (r.toNat : Int) 79764919 / 2) 2147483648)) = _
    have e : bits .xor .u32 (r.toNat : Int) 79764919 = ((r ^^^ 79764919#32).toNat : Int) := xor32 r 79764919#32
    rw [e, div2]
    exact congrArg (fun x => Ending.returned (.int .u32 x)) (or32 _ 2147483648#32)
  | false =>
    have ho : offB r = r >>> 1 := by unfold offB; rw [h]; simp
    rw [h] at hand
    rw [ho]
    clear ho h
    have hand' : bits .and .u32 (r.toNat : Int) 1 = 0 := hand
    clear hand
    go_enter Try.func52, Try.ntmps52
    go_wp2
    go_ret
    refine ⟨?_, rfl⟩
    show Ending.returned (.int .u32 ((r.toNat : Int) / 2)) = _
    rw [div2]
    rfl

theorem head_any (r : BitVec 32) (c : UInt8) : bits .xor .u32 (r.toNat : Int) (HMod.hMod (HMul.hMul (HMod.hMod (c.toNat : Int) (4294967296 : Int)) (16777216 : Int)) (4294967296 : Int)) = ((r ^^^ headB c).toNat : Int) := by
  have hc := c.toNat_lt
  have e : HMod.hMod (HMul.hMul (HMod.hMod (c.toNat : Int) (4294967296 : Int)) (16777216 : Int)) (4294967296 : Int) = Int.ofNat (headB c).toNat := by
    unfold headB
    rw [BitVec.toNat_shiftLeft, Nat.shiftLeft_eq, BitVec.toNat_ofNat]
    show _ = ((c.toNat % 2 ^ 32 * 2 ^ 24 % 2 ^ 32 : Nat) : Int)
    omega
  rw [e]
  exact xor32 r (headB c)

def onN : Nat → BitVec 32 → BitVec 32
  | 0, r => r
  | t + 1, r => onB (onN t r)

theorem behindB_snoc (r : BitVec 32) (xs : List UInt8) (j : Nat) (y : UInt8) (h : xs[j]? = some y) : behindB r (xs.take (j + 1)) = onN 8 (behindB r (xs.take j) ^^^ headB y) := by
  obtain ⟨hj, rfl⟩ := List.getElem?_eq_some_iff.1 h
  rw [List.take_succ_eq_append_getElem hj, behindB_append]
  rfl

set_option maxHeartbeats 1000000 in
theorem behind_any (w : World) (r : BitVec 32) (v : Value) (xs : List UInt8) (hb : BytesAt w v xs) :
    Calls Try.prog 43 #[w32 r, v] w fun e w' => e = .returned (w32 (behindB r xs)) ∧ w = w' := by
  obtain ⟨a, c, rfl, h1, h2⟩ := RowAt.len hb
  have hl : xs.length ≤ 9223372036854775807 := Nat.le_trans h1 h2
  go_enter Try.func43, Try.ntmps43
  go_wp2_with fail
  go_loopw [0, 9] (fun x i wr => ∃ j : Nat, j ≤ xs.length ∧ i = .int .i64 j ∧ x = w32 (behindB r (xs.take j)) ∧ w = wr) (fun _ i _ => xs.length - (intOf i).toNat)
  case atStart => exact ⟨0, Nat.zero_le _, rfl, rfl, rfl⟩
  case round =>
    obtain ⟨j, hj, rfl, rfl, rfl⟩ := hrel
    by_cases hlt : j < xs.length
    · obtain ⟨b, o, c', hv, _, _, hc⟩ := hb.open (by omega)
      cases hv
      obtain ⟨y, hy⟩ : ∃ y, xs[j]? = some y := ⟨xs[j], by simp⟩
      have c0 := hc j y hy
      have HS := Lib.hid (behindB_snoc r xs j y hy)
      generalize behindB r (xs.take j) = R at HS ⊢
      clear hy hc
      go_wp2_with fail
      rw [head_any]
      go_loopw [0, 18] (fun x i wr => ∃ t : Nat, t ≤ 8 ∧ i = .int .i64 t ∧ x = w32 (onN t (R ^^^ headB y)) ∧ w = wr) (fun _ i _ => 8 - (intOf i).toNat)
      case atStart => exact ⟨0, Nat.zero_le _, rfl, rfl, rfl⟩
      case round =>
        obtain ⟨t, ht, rfl, rfl, rfl⟩ := hrel
        by_cases ht8 : t < 8
        · go_wp2_with fail
          refine (on_any w _).mono ?_
          rintro e w1 ⟨rfl, rfl⟩
          dsimp only
          go_wp2
          go_roundw
          case rel => exact ⟨t + 1, ht8, by go_num, rfl, trivial⟩
          case measure => simp [intOf]; omega
        · have h8 : t = 8 := by omega
          subst h8
          go_wp2
          go_roundw
          case rel => exact ⟨j + 1, hlt, by go_num, by rw [HS.out], trivial⟩
          case measure => simp [intOf]; omega
    · have he : xs.take j = xs := List.take_of_length_le (by omega)
      rw [he]
      go_wp2
      go_ret
      exact ⟨rfl, rfl⟩

theorem sum_any (w : World) (v : Value) (xs : List UInt8) (hb : BytesAt w v xs) :
    Calls Try.prog 16 #[v] w fun e w' => e = .returned (w32 (sumB xs)) ∧ w = w' := by
  go_enter Try.func16, Try.ntmps16
  go_wp2_with fail
  refine (behind_any w 4294967295#32 v xs hb).mono ?_
  rintro e w1 ⟨rfl, rfl⟩
  dsimp only
  go_wp2
  go_ret
  refine ⟨?_, rfl⟩
  have e0 : (~~~ 0#32 : BitVec 32) = 4294967295#32 := by decide
  have e1 : (4294967295#32 : BitVec 32) = BitVec.allOnes 32 := by decide
  unfold sumB
  rw [e0]
  generalize behindB 4294967295#32 xs = R
  have e2 : ~~~ R = 4294967295#32 ^^^ R := by rw [e1, BitVec.allOnes_xor]
  rw [e2]
  exact congrArg (fun x => Ending.returned (.int .u32 x)) (xor32 4294967295#32 R)
end Go.Proofs.Ytojgdejofpafkaa
