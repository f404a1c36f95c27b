/- crc.Fix. -/
import Derived.Test.YtojgdejofpafkaaCrc5
import Derived.Test.YtojgdejofpafkaaCrcBytes
import Derived.Test.YtojgdejofpafkaaCrcGauss
import Derived.Test.YtojgdejofpafkaaCrcWin
import Derived.Test.YtojgdejofpafkaaForks
import Derived.Test.YtojgdejofpafkaaFields14
namespace Go.Proofs.Ytojgdejofpafkaa
open Go.RowKit
set_option linter.unusedVariables false

/-- What the four bytes are to be. -/
def holeB (xs : List UInt8) (at_ : Nat) (want : BitVec 32) : BitVec 32 := behindB (~~~ 0#32) (xs.take at_) ^^^ aheadB (~~~ want) ([0, 0, 0, 0] ++ xs.drop (at_ + 4))
def fixB (xs : List UInt8) (at_ : Nat) (want : BitVec 32) : List UInt8 := xs.take at_ ++ (bytesB (holeB xs at_ want) ++ xs.drop (at_ + 4))

/-- What Fix answers. -/
def GotFix (u : World) (F : HProp) (xs : List UInt8) (at_ : Int) (want : BitVec 32) (e : Ending) (w' : World) : Prop :=
  (0 ≤ at_ ∧ at_ + 4 ≤ xs.length ∧ ∃ a c, e = .returned (.tuple #[.slice a xs.length c, .bool true]) ∧ Sat u w' (ownB (.slice a xs.length c) (fixB xs at_.toNat want) * F)) ∨
  (¬ (0 ≤ at_ ∧ at_ + 4 ≤ xs.length) ∧ e = .returned (.tuple #[.slice none 0 0, .bool false]) ∧ Sat u w' F)

set_option maxHeartbeats 1000000 in
theorem cfix_no (u w : World) (F : HProp) (v : Value) (xs : List UInt8) (at_ : Int) (want : BitVec 32) (hb : BytesAt w v xs) (hs : Sat u w F) (hcap : xs.length ≤ 1000000) (h0 : -9223372036854775808 ≤ at_) (h1 : at_ ≤ 9223372036854775807)
    (hn : ¬ (0 ≤ at_ ∧ at_ + 4 ≤ xs.length)) : Calls Try.prog 18 #[v, .int .i64 at_, w32 want] w (GotFix u F xs at_ want) := by
  obtain ⟨a, c, rfl, ho1, ho2⟩ := RowAt.len hb
  have hw : IntKind.i64.wrap ((xs.length : Int) - 4) = (xs.length : Int) - 4 := IntWalk.i64_in _ (by omega)
  by_cases hneg : at_ < 0
  · have d1 : decide (at_ < 0) = true := by simpa using hneg
    go_enter Try.func18, Try.ntmps18
    go_wp2_with fail
    go_ret2
    exact .inr ⟨hn, rfl, hs⟩
  · have d1 : decide (at_ < 0) = false := by simpa using hneg
    have d2 : decide ((xs.length : Int) - 4 < at_) = true := by simp; omega
    go_enter Try.func18, Try.ntmps18
    go_wp2_with fail
    go_ret2
    exact .inr ⟨hn, rfl, hs⟩

/-- A row of ours that has a byte: its block. -/
theorem Sat.ownB_open {u w : World} {F : HProp} {a : Option Addr} {n c : Nat} {xs : List UInt8} (h : Sat u w (ownB (.slice a n c) xs * F)) (hx : 0 < xs.length) :
    ∃ g cur, a = some ⟨g, 0, none⟩ ∧ n = xs.length ∧ xs.length ≤ c ∧ c ≤ maxLen ∧ cur.size = c ∧ cur.toList.take xs.length = xs.map B ∧ Sat u w (own g (.cells cur 5 (0, 0)) * F) := by
  rcases Sat.row_iff.1 h with ⟨_, h0, _, _⟩ | ⟨g, cap, cur, hv, a1, a2, a3, a4, a5, h1⟩
  · omega
  · cases hv
    exact ⟨g, cur, rfl, rfl, a1, a2, by omega, by simpa using a4, h1⟩

theorem Sat.ownB_close {u w : World} {F : HProp} {g n c : Nat} {cur : Array Value} {xs : List UInt8} (h : Sat u w (own g (.cells cur 5 (0, 0)) * F)) (hn : n = xs.length) (h1 : xs.length ≤ c) (h2 : c ≤ maxLen) (h3 : cur.size = c) (h4 : cur.toList.take xs.length = xs.map B) :
    Sat u w (ownB (.slice (some ⟨g, 0, none⟩) n c) xs * F) := by
  subst hn
  exact Sat.row_mk h h1 h2 (by omega) (by simpa using h4)

theorem BytesAt.tail {w : World} {b o len c : Nat} {all : List UInt8} (h : BytesAt w (.slice (some ⟨b, o, none⟩) len c) all) (k : Nat) (hk : k ≤ all.length) :
    BytesAt w (.slice (if c = k then some ⟨b, o, none⟩ else some ⟨b, o + k, none⟩) (len - k) (c - k)) (all.drop k) := by
  obtain ⟨rfl, h1, h2⟩ := RowAt.cap h
  by_cases hn : k = all.length
  · subst hn
    have e : all.drop all.length = [] := List.drop_length
    rw [e, Nat.sub_self]
    split
    · exact .inr ⟨_, _, rfl, Nat.zero_le _, by omega, fun j u hu => by simp at hu⟩
    · exact .inr ⟨_, _, rfl, Nat.zero_le _, by omega, fun j u hu => by simp at hu⟩
  · have hc : c ≠ k := by omega
    rw [if_neg hc]
    have := h.part k (all.length - k) (c - k) (by omega) (by omega) (by omega) (by omega)
    rw [List.take_of_length_le (by simp)] at this
    have e : (some ⟨b, o, none⟩ : Option Addr).map (fun x => x.add k) = some ⟨b, o + k, none⟩ := by simp [addr_add_at]
    rw [e] at this
    exact this

theorem mk4 (w : World) : (Instr.makeSlice 22 (.int .i64 4) (.int .i64 4)).run Try.prog w = .ok (.slice (some ⟨w.heap.size, 0, none⟩) 4 4) (w.alloc (.cells #[.int .u8 0, .int .u8 0, .int .u8 0, .int .u8 0] 5)) := by kernel_rfl

theorem not32 (r : BitVec 32) : bits .xor .u32 IntKind.u32.max (r.toNat : Int) = ((~~~ r).toNat : Int) := by
  have e1 : (4294967295#32 : BitVec 32) = BitVec.allOnes 32 := by decide
  have e2 : ~~~ r = 4294967295#32 ^^^ r := by rw [e1, BitVec.allOnes_xor]
  rw [e2]
  exact xor32 4294967295#32 r

/-- The row behind k rounds of the last loop. -/
def holeA (cur : Array Value) (at_ : Nat) (x : BitVec 32) : Nat → Array Value
  | 0 => cur
  | k + 1 => (holeA cur at_ x k).setIfInBounds (at_ + k) (B (byteB x k))

theorem holeA_size (cur : Array Value) (at_ : Nat) (x : BitVec 32) : ∀ k, (holeA cur at_ x k).size = cur.size
  | 0 => rfl
  | k + 1 => by unfold holeA; rw [Array.size_setIfInBounds, holeA_size cur at_ x k]

theorem set_four (xs : List UInt8) (at_ : Nat) (h : at_ + 4 ≤ xs.length) (a b c d : UInt8) :
    (((xs.set at_ a).set (at_ + 1) b).set (at_ + 2) c).set (at_ + 3) d = xs.take at_ ++ ([a, b, c, d] ++ xs.drop (at_ + 4)) := by
  refine List.ext_getElem? fun j => ?_
  have hl : (xs.take at_).length = at_ := by simp; omega
  by_cases h1 : j < at_
  · rw [List.getElem?_set_ne (by omega), List.getElem?_set_ne (by omega), List.getElem?_set_ne (by omega), List.getElem?_set_ne (by omega), List.getElem?_append_left (by omega), List.getElem?_take, if_pos h1]
  · rw [List.getElem?_append_right (by omega), hl]
    by_cases h2 : at_ + 4 ≤ j
    · rw [List.getElem?_set_ne (by omega), List.getElem?_set_ne (by omega), List.getElem?_set_ne (by omega), List.getElem?_set_ne (by omega), List.getElem?_append_right (by simp; omega), List.getElem?_drop]
      congr 1
      simp
      omega
    · have h3 : j = at_ ∨ j = at_ + 1 ∨ j = at_ + 2 ∨ j = at_ + 3 := by omega
      rcases h3 with rfl | rfl | rfl | rfl
      · rw [List.getElem?_set_ne (by omega), List.getElem?_set_ne (by omega), List.getElem?_set_ne (by omega), List.getElem?_set_self (by omega), Nat.sub_self]
        rfl
      · rw [List.getElem?_set_ne (by omega), List.getElem?_set_ne (by omega), List.getElem?_set_self (by simp; omega), Nat.add_sub_cancel_left]
        rfl
      · rw [List.getElem?_set_ne (by omega), List.getElem?_set_self (by simp; omega), Nat.add_sub_cancel_left]
        rfl
      · rw [List.getElem?_set_self (by simp; omega), Nat.add_sub_cancel_left]
        rfl

theorem holeA_four (cur : Array Value) (xs : List UInt8) (at_ : Nat) (x : BitVec 32) (h : at_ + 4 ≤ xs.length) (hc : cur.toList.take xs.length = xs.map B) :
    (holeA cur at_ x 4).toList.take xs.length = (xs.take at_ ++ (bytesB x ++ xs.drop (at_ + 4))).map B := by
  have e : bytesB x = [byteB x 0, byteB x 1, byteB x 2, byteB x 3] := rfl
  rw [e, ← set_four xs at_ h]
  show List.take xs.length ((((cur.setIfInBounds (at_ + 0) _).setIfInBounds (at_ + 1) _).setIfInBounds (at_ + 2) _).setIfInBounds (at_ + 3) _).toList = _
  simp only [Array.toList_setIfInBounds, List.take_set, hc, List.map_set, Nat.add_zero]

theorem fixB_length (xs : List UInt8) (at_ : Nat) (want : BitVec 32) (h : at_ + 4 ≤ xs.length) : (fixB xs at_ want).length = xs.length := by
  unfold fixB bytesB
  simp
  omega

theorem byte_shift (x : BitVec 32) (k : Nat) : (byteB x k).toNat = x.toNat / 2 ^ (24 - 8 * k) % 256 := by
  unfold byteB
  rw [UInt8.toNat_ofNat', BitVec.toNat_ushiftRight, Nat.shiftRight_eq_div_pow]

set_option maxHeartbeats 2000000 in
theorem cfix_yes (u w : World) (F : HProp) (v : Value) (xs : List UInt8) (at_ : Nat) (want : BitVec 32) (hb : BytesAt w v xs) (hs : Sat u w F) (hcap : xs.length ≤ 1000000) (hn : at_ + 4 ≤ xs.length)
    (hk : ∀ w', Sat u w' F → BytesAt w' v xs) : Calls Try.prog 18 #[v, .int .i64 at_, w32 want] w (GotFix u F xs at_ want) := by
  obtain ⟨b0, o0, c, rfl, ho1, ho2, _⟩ := hb.open (by omega)
  obtain ⟨i0, hi, hz0, hz1, hz2⟩ := info_parts info_u8
  have hw : IntKind.i64.wrap ((xs.length : Int) - 4) = (xs.length : Int) - 4 := IntWalk.i64_in _ (by omega)
  have hw2 : IntKind.i64.wrap ((at_ : Int) + 4) = (at_ : Int) + 4 := IntWalk.i64_in _ (by omega)
  have d1 : decide ((at_ : Int) < 0) = false := by simp
  have d2 : decide ((xs.length : Int) - 4 < at_) = false := by simp; omega
  go_enter Try.func18, Try.ntmps18
  go_wp2_with fail
  refine (clone_any u w F _ xs hs hb (by omega)).mono ?_
  rintro e w1 ⟨a1, c1, rfl, h1⟩
  obtain ⟨g, cur, rfl, _, hc1, hc2, hc3, hc4, h2⟩ := h1.ownB_open (by omega)
  dsimp only
  clear h1
  have z1 : (0 : Int) ≤ (at_ : Int) := by omega
  have z2 : (at_ : Int) ≤ (at_ : Int) + 4 := by omega
  have z3 : (at_ : Int) + 4 ≤ c1 := by omega
  have z4 : (0 : Int) ≤ (at_ : Int) + 4 := by omega
  go_upto_region 5 with fail
  rw [Nat.add_sub_cancel_left]
  go_cut [10] (fun x wx => x = w32 (holeB xs at_ want) ∧ Sat u wx (own g (.cells cur 5 (0, 0)) * F))
  case first J K' hJ hmet =>
    refine wp_region_forks (.fork [0, 1, 2, 4, 5, 7, 8, 9, 10] 3 6 (.fin [(6, false), (11, false), (12, false), (13, true), (14, true)]) (.fin [(3, false), (11, false), (12, false), (13, true), (14, true)])) (fun x => Sat u x (own g (.cells cur 5 (0, 0)) * F)) (by kernel_rfl) (by kernel_rfl) (fun _ _ _ _ _ h => h) ?_
    try simp only [wpTree, pickOps, List.map_cons, List.map_nil, Array.getD_eq_getD_getElem?, List.getElem?_toArray, List.getElem?_cons_succ, List.getElem?_cons_zero, Option.getD_some]
    have h3 := h2.drew
    have y1 : (at_ : Int) ≤ c := by omega
    have y2 : (at_ : Int) + 4 ≤ (xs.length : Int) := by omega
    have hT : ((at_ : Int) + 4).toNat = at_ + 4 := by omega
    have hS : IntKind.u32.signed = false := rfl
    repeat (first
      | (refine wpSeq_run (by rfl) h3 (fun K hK => ⟨?_, ?_, ?_⟩); rotate_left; (· (intro wS hSw; go_simp <;> with_reducible rfl)); simp only [Act.put, List.setIfInBounds_toArray, List.set_cons_zero, List.set_cons_succ]; refine hK _ ?_; clear hK K)
      | (refine wpSeq_skip (by rfl) h3 (fun K hK => ?_); simp only [Act.put, List.setIfInBounds_toArray, List.set_cons_zero, List.set_cons_succ]; refine hK _ ?_; clear hK K))
    refine wpSeq_end ?_
    refine ⟨?_, ?_⟩
    ·
      refine wpAct_run (by rfl) (fun K hK => ?_)
      go_simp
      refine (behind_any _ 4294967295#32 _ (xs.take at_) (BytesAt.take (hk _ h3.right) at_ (by omega))).mono ?_
      rintro e x1 ⟨rfl, rfl⟩
      try dsimp only
      try simp only [Act.put, List.setIfInBounds_toArray, List.set_cons_zero, List.set_cons_succ]
      refine hK _ _ (_) ((fun _ h => h)) h3 ?_
      clear hK K
      try simp only [wpTree, pickOps, List.map_cons, List.map_nil, Array.getD_eq_getD_getElem?, List.getElem?_toArray, List.getElem?_cons_succ, List.getElem?_cons_zero, Option.getD_some]
      repeat (first
        | (refine wpSeq_run (by rfl) h3 (fun K hK => ⟨?_, ?_, ?_⟩); rotate_left; (· (intro wS hSw; go_simp <;> with_reducible rfl)); simp only [Act.put, List.setIfInBounds_toArray, List.set_cons_zero, List.set_cons_succ]; refine hK _ ?_; clear hK K)
        | (refine wpSeq_skip (by rfl) h3 (fun K hK => ?_); simp only [Act.put, List.setIfInBounds_toArray, List.set_cons_zero, List.set_cons_succ]; refine hK _ ?_; clear hK K))
      have hmk := mk4 w1.drew
      refine wpSeq_act (by rfl) (fun K hK => ?_)
      go_simp
      try dsimp only
      try simp only [Act.put, List.setIfInBounds_toArray, List.set_cons_zero, List.set_cons_succ]
      refine hK _ _ (_) ((fun _ h => h)) (h3.alloc _).right ?_
      clear hK K
      have h5 := (h2.alloc (.cells #[.int .u8 0, .int .u8 0, .int .u8 0, .int .u8 0] 5)).drew
      have h6 := h5.ownB_close (n := 4) (c := 4) (xs := [0, 0, 0, 0]) rfl (by decide) (by decide) rfl rfl
      have hta := (hk _ h6.right.right).tail (at_ + 4) hn
      refine wpSeq_act (by rfl) (fun K hK => ?_)
      refine wp_append_sl _ _ 22 rfl i0 (.int .u8 0) Try.underlying22 hi hz0 hz1 hz2 rfl (by decide) rfl rfl h6 hta (by simp) (B_one _) (by simp; omega) ?_
      intro a5 c5 x5 h7 hx
      clear hx
      try dsimp only
      try simp only [Act.put, List.setIfInBounds_toArray, List.set_cons_zero, List.set_cons_succ]
      refine hK _ _ (_) ((fun _ h => h)) h7.right ?_
      clear hK K
      have hL : (([0, 0, 0, 0] : List UInt8) ++ xs.drop (at_ + 4)).length = 4 + (xs.length - (at_ + 4)) := by simp; omega
      have h8 : BytesAt x5 (.slice a5 (4 + (xs.length - (at_ + 4))) c5) ([0, 0, 0, 0] ++ xs.drop (at_ + 4)) := by
        have := h7.row_at
        rw [← List.map_append, ← List.length_append, hL] at this
        unfold BytesAt
        rw [hL]
        exact this
      clear hL
      refine wpSeq_act (by rfl) (fun K hK => ?_)
      go_simp
      rw [not32]
      refine (ahead_any u x5 _ (~~~ want) _ _ (by simp; omega) h8 h7.right).mono ?_
      rintro e x6 ⟨rfl, h9⟩
      try dsimp only
      try simp only [Act.put, List.setIfInBounds_toArray, List.set_cons_zero, List.set_cons_succ]
      refine hK _ _ (_) ((fun _ h => h)) h9 ?_
      clear hK K
      repeat (first
        | (refine wpSeq_run (by rfl) h9 (fun K hK => ⟨?_, ?_, ?_⟩); rotate_left; (· (intro wS hSw; go_simp <;> with_reducible rfl)); simp only [Act.put, List.setIfInBounds_toArray, List.set_cons_zero, List.set_cons_succ]; refine hK _ ?_; clear hK K)
        | (refine wpSeq_skip (by rfl) h9 (fun K hK => ?_); simp only [Act.put, List.setIfInBounds_toArray, List.set_cons_zero, List.set_cons_succ]; refine hK _ ?_; clear hK K))
      refine wpSeq_end ?_
      refine hmet _ _ ?_
      go_meet
      refine ⟨?_, h9⟩
      have e0 : (~~~ 0#32 : BitVec 32) = 4294967295#32 := by decide
      unfold holeB
      rw [e0]
      exact congrArg (Value.int .u32) (xor32 _ _)
    ·
      have hmk := mk4 w1.drew
      refine wpAct_run (by rfl) (fun K hK => ?_)
      go_simp
      try dsimp only
      try simp only [Act.put, List.setIfInBounds_toArray, List.set_cons_zero, List.set_cons_succ]
      refine hK _ _ (_) ((fun _ h => h)) (h3.alloc _).right ?_
      clear hK K
      try simp only [wpTree, pickOps, List.map_cons, List.map_nil, Array.getD_eq_getD_getElem?, List.getElem?_toArray, List.getElem?_cons_succ, List.getElem?_cons_zero, Option.getD_some]
      have h5 := (h2.alloc (.cells #[.int .u8 0, .int .u8 0, .int .u8 0, .int .u8 0] 5)).drew
      refine wpSeq_act (by rfl) (fun K hK => ?_)
      go_simp
      refine (behind_any _ 4294967295#32 _ (xs.take at_) (BytesAt.take (hk _ h5.right.right) at_ (by omega))).mono ?_
      rintro e x1 ⟨rfl, rfl⟩
      try dsimp only
      try simp only [Act.put, List.setIfInBounds_toArray, List.set_cons_zero, List.set_cons_succ]
      refine hK _ _ (_) ((fun _ h => h)) h5.right ?_
      clear hK K
      have h6 := h5.ownB_close (n := 4) (c := 4) (xs := [0, 0, 0, 0]) rfl (by decide) (by decide) rfl rfl
      have hta := (hk _ h6.right.right).tail (at_ + 4) hn
      refine wpSeq_act (by rfl) (fun K hK => ?_)
      refine wp_append_sl _ _ 22 rfl i0 (.int .u8 0) Try.underlying22 hi hz0 hz1 hz2 rfl (by decide) rfl rfl h6 hta (by simp) (B_one _) (by simp; omega) ?_
      intro a5 c5 x5 h7 hx
      clear hx
      try dsimp only
      try simp only [Act.put, List.setIfInBounds_toArray, List.set_cons_zero, List.set_cons_succ]
      refine hK _ _ (_) ((fun _ h => h)) h7.right ?_
      clear hK K
      have hL : (([0, 0, 0, 0] : List UInt8) ++ xs.drop (at_ + 4)).length = 4 + (xs.length - (at_ + 4)) := by simp; omega
      have h8 : BytesAt x5 (.slice a5 (4 + (xs.length - (at_ + 4))) c5) ([0, 0, 0, 0] ++ xs.drop (at_ + 4)) := by
        have := h7.row_at
        rw [← List.map_append, ← List.length_append, hL] at this
        unfold BytesAt
        rw [hL]
        exact this
      clear hL
      refine wpSeq_act (by rfl) (fun K hK => ?_)
      go_simp
      rw [not32]
      refine (ahead_any u x5 _ (~~~ want) _ _ (by simp; omega) h8 h7.right).mono ?_
      rintro e x6 ⟨rfl, h9⟩
      try dsimp only
      try simp only [Act.put, List.setIfInBounds_toArray, List.set_cons_zero, List.set_cons_succ]
      refine hK _ _ (_) ((fun _ h => h)) h9 ?_
      clear hK K
      repeat (first
        | (refine wpSeq_run (by rfl) h9 (fun K hK => ⟨?_, ?_, ?_⟩); rotate_left; (· (intro wS hSw; go_simp <;> with_reducible rfl)); simp only [Act.put, List.setIfInBounds_toArray, List.set_cons_zero, List.set_cons_succ]; refine hK _ ?_; clear hK K)
        | (refine wpSeq_skip (by rfl) h9 (fun K hK => ?_); simp only [Act.put, List.setIfInBounds_toArray, List.set_cons_zero, List.set_cons_succ]; refine hK _ ?_; clear hK K))
      refine wpSeq_end ?_
      refine hmet _ _ ?_
      go_meet
      refine ⟨?_, h9⟩
      have e0 : (~~~ 0#32 : BitVec 32) = 4294967295#32 := by decide
      unfold holeB
      rw [e0]
      exact congrArg (Value.int .u32) (xor32 _ _)
  case rest =>
    obtain ⟨rfl, h3⟩ := hcut
    clear h2
    have HX := Lib.hid (rfl : holeB xs at_ want = holeB xs at_ want)
    clear HX
    have hfix : fixB xs at_ want = xs.take at_ ++ (bytesB (holeB xs at_ want) ++ xs.drop (at_ + 4)) := rfl
    have HF := Lib.hid hfix
    clear hfix
    generalize holeB xs at_ want = X at HF ⊢
    go_wp2_with fail
    go_loopw [46] (fun i wr => ∃ k : Nat, k ≤ 4 ∧ i = .int .i64 k ∧ Sat u wr (own g (.cells (holeA cur at_ X k) 5 (0, 0)) * F)) (fun i _ => 4 - (intOf i).toNat)
    case atStart => exact ⟨0, by omega, rfl, h3⟩
    case round =>
      obtain ⟨k, hk4, rfl, h4⟩ := hrel
      by_cases hlt : k < 4
      · have hsz := holeA_size cur at_ X k
        have hset := h4.setCell (at_ + k) (B (byteB X k))
        have hnum : k = 0 ∨ k = 1 ∨ k = 2 ∨ k = 3 := by omega
        have f0 := h4.free (at_ + k)
        obtain ⟨v0, c0⟩ : ∃ v0, wr.cell? ⟨g, at_ + k, none⟩ = some v0 := ⟨_, by rw [h4.cell, Array.getElem?_eq_getElem (by omega)]⟩
        have hb0 := byte_shift X k
        clear hsz h4
        have HS := Lib.hid hset
        have HB := Lib.hid hb0
        clear hset hb0 hlt hk4
        rcases hnum with rfl | rfl | rfl | rfl
        · simp only [Nat.add_zero] at c0 f0
          go_wp2
          go_roundw
          case rel =>
            refine ⟨1, by omega, rfl, ?_⟩
            have hX := X.isLt
            have h5 := HS.out
            have e : B (byteB X 0) = .int .u8 ((X.toNat : Int) / 16777216) := by
              unfold B
              rw [HB.out]
              show Value.int .u8 ((X.toNat / 16777216 % 256 : Nat) : Int) = _
              congr 1 <;> omega
            rw [← e]
            exact h5
          case measure => simp [intOf]
        · go_wp2
          go_roundw
          case rel =>
            refine ⟨2, by omega, rfl, ?_⟩
            have hX := X.isLt
            have h5 := HS.out
            have e : B (byteB X 1) = .int .u8 ((X.toNat : Int) / 65536 % 256) := by
              unfold B
              rw [HB.out]
              show Value.int .u8 ((X.toNat / 65536 % 256 : Nat) : Int) = _
              congr 1 <;> omega
            rw [← e]
            exact h5
          case measure => simp [intOf]
        · go_wp2
          go_roundw
          case rel =>
            refine ⟨3, by omega, rfl, ?_⟩
            have hX := X.isLt
            have h5 := HS.out
            have e : B (byteB X 2) = .int .u8 ((X.toNat : Int) / 256 % 256) := by
              unfold B
              rw [HB.out]
              show Value.int .u8 ((X.toNat / 256 % 256 : Nat) : Int) = _
              congr 1 <;> omega
            rw [← e]
            exact h5
          case measure => simp [intOf]
        · go_wp2
          go_roundw
          case rel =>
            refine ⟨4, by omega, rfl, ?_⟩
            have hX := X.isLt
            have h5 := HS.out
            have e : B (byteB X 3) = .int .u8 ((X.toNat : Int) % 256) := by
              unfold B
              rw [HB.out]
              show Value.int .u8 ((X.toNat / 1 % 256 : Nat) : Int) = _
              congr 1 <;> omega
            rw [← e]
            exact h5
          case measure => simp [intOf]
      · have h44 : k = 4 := by omega
        subst h44
        have h6 : Sat u wr (ownB (.slice (some ⟨g, 0, none⟩) xs.length c1) (fixB xs at_ want) * F) := by
          have hl := fixB_length xs at_ want hn
          have hs4 := holeA_size cur at_ X 4
          refine h4.ownB_close hl.symm (by omega) hc2 (by omega) ?_
          rw [hl, HF.out]
          exact holeA_four cur xs at_ X hn hc4
        clear h4 hlt hk4 HF
        go_wp2
        go_ret2
        refine .inl ⟨by omega, by omega, _, _, rfl, ?_⟩
        simpa using h6

theorem cfix_any (u w : World) (F : HProp) (v : Value) (xs : List UInt8) (at_ : Int) (want : BitVec 32) (hb : BytesAt w v xs) (hs : Sat u w F) (hcap : xs.length ≤ 1000000) (h0 : -9223372036854775808 ≤ at_) (h1 : at_ ≤ 9223372036854775807)
    (hk : ∀ w', Sat u w' F → BytesAt w' v xs) : Calls Try.prog 18 #[v, .int .i64 at_, w32 want] w (GotFix u F xs at_ want) := by
  by_cases h : 0 ≤ at_ ∧ at_ + 4 ≤ xs.length
  · obtain ⟨n, rfl⟩ : ∃ n : Nat, at_ = n := ⟨at_.toNat, by omega⟩
    exact cfix_yes u w F v xs n want hb hs hcap (by omega) hk
  · exact cfix_no u w F v xs at_ want hb hs hcap h0 h1 h
end Go.Proofs.Ytojgdejofpafkaa
