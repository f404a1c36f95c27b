/- The reference of layer 3 (Bytes, Number), and a piece's bytes. -/
import Derived.Test.YtlfmkiclaijokaaGreatDoorMk7
import Derived.Test.YtlfmkiclaijokaaGreatDoorMk2
import Derived.Deep.RegionHeld3
import Derived.Deep.RegionWith
namespace Go.Proofs.YtlfmkiclaijokaaGreatDoor
open Go.RowKit

set_option maxHeartbeats 400000 in
theorem refBytes1 (u w : World) (F : HProp) (n : Int) (h0 : 0 ≤ n) (h1 : n < 18446744073709551616) (hs : Sat u w F) :
    Calls Tryz.prog 85 #[.int .u64 n, .int .i64 1] w fun e w' => ∃ a c, e = .returned (.slice a 1 c) ∧ Sat u w' (ownB (.slice a 1 c) (be 1 n.toNat) * F) := by
  have hs1 := hs.alloc (.cells #[.int .u8 (n % 256)] 5)
  have hb : Sat u (w.alloc (.cells #[.int .u8 (n % 256)] 5)) (ownB (.slice (some ⟨w.heap.size, 0, none⟩) 1 1) (be 1 n.toNat) * F) := by
    refine Sat.row_mk hs1 (by simp) (by decide) rfl ?_
    have e : be 1 n.toNat = [UInt8.ofNat n.toNat] := rfl
    rw [e]
    have : (UInt8.ofNat n.toNat).toNat = (n % 256).toNat := by simp; omega
    simp only [List.map_cons, List.map_nil, B, this]
    rw [Int.toNat_of_nonneg (by omega)]
    rfl
  go_enter Tryz.func85, Tryz.ntmps85
  go_wp2
  go_ret
  exact ⟨_, _, rfl, hb⟩

set_option maxHeartbeats 400000 in
theorem refBytes2 (u w : World) (F : HProp) (n : Int) (h0 : 0 ≤ n) (h1 : n < 18446744073709551616) (hs : Sat u w F) :
    Calls Tryz.prog 85 #[.int .u64 n, .int .i64 2] w fun e w' => ∃ a c, e = .returned (.slice a 2 c) ∧ Sat u w' (ownB (.slice a 2 c) (be 2 n.toNat) * F) := by
  obtain ⟨i0, hi, hz0, hz1, hz2⟩ := info_parts info_u8
  go_enter Tryz.func85, Tryz.ntmps85
  go_wp2_with fail
  refine (refBytes1 u w F n h0 h1 hs).mono ?_
  rintro e w1 ⟨a, c, rfl, h2⟩
  go_wp2_with fail
  refine (refBytes1 u w1 _ _ (by omega) (by omega) h2).mono ?_
  rintro e w2 ⟨a2, c2, rfl, h3⟩
  have hb : RowAt w2 (.slice a 1 c) 1 ((be 1 n.toNat).map B) := by
    have := h3.s2.bytes
    unfold BytesAt at this
    rwa [be_length] at this
  unfold ownB at h3
  rw [be_length] at h3
  go_wp2_with (at_builtin; refine wpList_append_sl rfl _ _ 34 rfl i0 (.int .u8 0) Tryz.underlying34 hi hz0 hz1 hz2 rfl (by decide) rfl rfl h3 hb (by simp) (B_one _) (by omega) ?_; intro a3 c3 w3 h4 hx; clear hx)
  go_ret
  refine ⟨_, _, rfl, ?_⟩
  have e : be 2 n.toNat = be 1 (n / 256).toNat ++ be 1 n.toNat := by
    have := be_add 1 1 n.toNat
    rw [show (n / 256).toNat = n.toNat / 256 ^ 1 from by rw [show (256 : Nat) ^ 1 = 256 from rfl]; omega]
    exact this
  unfold ownB
  rw [e, List.length_append, be_length, be_length, List.map_append]
  exact h4.s2.right

set_option maxHeartbeats 400000 in
theorem refBytes4 (u w : World) (F : HProp) (n : Int) (h0 : 0 ≤ n) (h1 : n < 18446744073709551616) (hs : Sat u w F) :
    Calls Tryz.prog 85 #[.int .u64 n, .int .i64 4] w fun e w' => ∃ a c, e = .returned (.slice a 4 c) ∧ Sat u w' (ownB (.slice a 4 c) (be 4 n.toNat) * F) := by
  obtain ⟨i0, hi, hz0, hz1, hz2⟩ := info_parts info_u8
  go_enter Tryz.func85, Tryz.ntmps85
  go_wp2_with fail
  refine (refBytes2 u w F n h0 h1 hs).mono ?_
  rintro e w1 ⟨a, c, rfl, h2⟩
  go_wp2_with fail
  refine (refBytes2 u w1 _ _ (by omega) (by omega) h2).mono ?_
  rintro e w2 ⟨a2, c2, rfl, h3⟩
  have hb : RowAt w2 (.slice a 2 c) 2 ((be 2 n.toNat).map B) := by
    have := h3.s2.bytes
    unfold BytesAt at this
    rwa [be_length] at this
  unfold ownB at h3
  rw [be_length] at h3
  go_wp2_with (at_builtin; refine wpList_append_sl rfl _ _ 34 rfl i0 (.int .u8 0) Tryz.underlying34 hi hz0 hz1 hz2 rfl (by decide) rfl rfl h3 hb (by simp) (B_one _) (by omega) ?_; intro a3 c3 w3 h4 hx; clear hx)
  go_ret
  refine ⟨_, _, rfl, ?_⟩
  have e : be 4 n.toNat = be 2 (n / 65536).toNat ++ be 2 n.toNat := by
    have := be_add 2 2 n.toNat
    rw [show (n / 65536).toNat = n.toNat / 256 ^ 2 from by rw [show (256 : Nat) ^ 2 = 65536 from rfl]; omega]
    exact this
  unfold ownB
  rw [e, List.length_append, be_length, be_length, List.map_append]
  exact h4.s2.right

set_option maxHeartbeats 400000 in
theorem refBytes8 (u w : World) (F : HProp) (n : Int) (h0 : 0 ≤ n) (h1 : n < 18446744073709551616) (hs : Sat u w F) :
    Calls Tryz.prog 85 #[.int .u64 n, .int .i64 8] w fun e w' => ∃ a c, e = .returned (.slice a 8 c) ∧ Sat u w' (ownB (.slice a 8 c) (be 8 n.toNat) * F) := by
  obtain ⟨i0, hi, hz0, hz1, hz2⟩ := info_parts info_u8
  go_enter Tryz.func85, Tryz.ntmps85
  go_wp2_with fail
  refine (refBytes4 u w F n h0 h1 hs).mono ?_
  rintro e w1 ⟨a, c, rfl, h2⟩
  go_wp2_with fail
  refine (refBytes4 u w1 _ _ (by omega) (by omega) h2).mono ?_
  rintro e w2 ⟨a2, c2, rfl, h3⟩
  have hb : RowAt w2 (.slice a 4 c) 4 ((be 4 n.toNat).map B) := by
    have := h3.s2.bytes
    unfold BytesAt at this
    rwa [be_length] at this
  unfold ownB at h3
  rw [be_length] at h3
  go_wp2_with (at_builtin; refine wpList_append_sl rfl _ _ 34 rfl i0 (.int .u8 0) Tryz.underlying34 hi hz0 hz1 hz2 rfl (by decide) rfl rfl h3 hb (by simp) (B_one _) (by omega) ?_; intro a3 c3 w3 h4 hx; clear hx)
  go_ret
  refine ⟨_, _, rfl, ?_⟩
  have e : be 8 n.toNat = be 4 (n / 4294967296).toNat ++ be 4 n.toNat := by
    have := be_add 4 4 n.toNat
    rw [show (n / 4294967296).toNat = n.toNat / 256 ^ 4 from by rw [show (256 : Nat) ^ 4 = 4294967296 from rfl]; omega]
    exact this
  unfold ownB
  rw [e, List.length_append, be_length, be_length, List.map_append]
  exact h4.s2.right

set_option maxHeartbeats 400000 in
theorem number1 (w : World) (v : Value) (xs : List UInt8) (hb : BytesAt w v xs) (hl : xs.length = 1) :
    Calls Tryz.prog 123 #[v] w fun e w' => e = .returned (.int .u64 (num xs : Nat)) ∧ ∃ m, w' = w.drewN m := by
  obtain ⟨x, rfl⟩ : ∃ x, xs = [x] := List.length_eq_one_iff.1 hl
  rcases hb with ⟨_, h, _⟩ | ⟨a, c, rfl, h1, h2, h3⟩
  · simp at h
  have hc := h3 0 (B x) rfl
  obtain ⟨b, o, sp⟩ := a
  have hsp : sp = none := by
    cases sp with
    | none => rfl
    | some _ => simp [Addr.add, World.cell?] at hc; split at hc <;> simp at hc
  subst hsp
  simp only [Addr.add, if_true, B] at hc
  have hx := x.toNat_lt
  go_enter Tryz.func123, Tryz.ntmps123
  go_wp2
  go_ret
  exact ⟨by simp [num], 0, rfl⟩

set_option maxHeartbeats 1000000 in
theorem number2 (w : World) (v : Value) (xs : List UInt8) (hb : BytesAt w v xs) (hl : xs.length = 2) :
    Calls Tryz.prog 123 #[v] w fun e w' => e = .returned (.int .u64 (num xs : Nat)) ∧ ∃ m, w' = w.drewN m := by
  obtain ⟨b, o, c, rfl, hc1, hc2, hc3⟩ := hb.open (by omega)
  rw [hl] at hc1 ⊢
  have q1 : BytesAt w (.slice (some ⟨b, o, none⟩) 1 c) (xs.take 1) := .mk' (by simp; omega) (by omega) hc2 fun j y hy => hc3 j y (by rw [List.getElem?_take] at hy; split at hy; exact hy; cases hy)
  have q2 : BytesAt w (.slice (some ⟨b, o + 1, none⟩) 1 (c - 1)) (xs.drop 1) := .mk' (by simp; omega) (by omega) (by omega) fun j y hy => by
    rw [List.getElem?_drop] at hy
    rw [Nat.add_assoc]
    exact hc3 _ y hy
  have l1 : (xs.take 1).length = 1 := by simp; omega
  have l2 : (xs.drop 1).length = 1 := by simp; omega
  have b1 := num_lt (xs.take 1)
  have b2 := num_lt (xs.drop 1)
  rw [l1] at b1
  rw [l2] at b2
  have e : num xs = num (xs.take 1) * 256 + num (xs.drop 1) := by
    have := num_append (xs.take 1) (xs.drop 1)
    rw [List.take_append_drop, l2] at this
    exact this
  rw [e]
  generalize hn1 : num (xs.take 1) = n1 at b1 ⊢
  generalize hn2 : num (xs.drop 1) = n2 at b2 ⊢
  have b1' : n1 < 256 := b1
  have b2' : n2 < 256 := b2
  have H1 := fun m => (number1 (w.drewN m) _ _ q1 l1)
  have H2 := fun m => (number1 (w.drewN m) _ _ q2 l2)
  rw [hn1] at H1
  rw [hn2] at H2
  have C1 := Lib.hid H1
  have C2 := Lib.hid H2
  clear H1 H2 hn1 hn2 q1 q2 l1 l2 e hl b1 b2 hb hc3
  have z1 : IntKind.i64.wrap 1 = 1 := rfl
  have z2 : IntKind.i64.wrap 8 = 8 := rfl
  have z3 : (1 : Int) ≤ (c : Int) := by omega
  have z4 : ¬ c = 1 := by omega
  go_enter Tryz.func123, Tryz.ntmps123
  go_wp2
  go_quiet (first | (go_at_call_of 123 (Value.slice (some ⟨b, o, none⟩) 1 c); exact Calls.quiet_of (C1.out _)) | (exact Calls.quiet_of (C2.out _)))
  go_wp2
  go_ret
  exact ⟨by simp [Array.getD], _, rfl⟩

set_option maxHeartbeats 1000000 in
theorem number4 (w : World) (v : Value) (xs : List UInt8) (hb : BytesAt w v xs) (hl : xs.length = 4) :
    Calls Tryz.prog 123 #[v] w fun e w' => e = .returned (.int .u64 (num xs : Nat)) ∧ ∃ m, w' = w.drewN m := by
  obtain ⟨b, o, c, rfl, hc1, hc2, hc3⟩ := hb.open (by omega)
  rw [hl] at hc1 ⊢
  have q1 : BytesAt w (.slice (some ⟨b, o, none⟩) 2 c) (xs.take 2) := .mk' (by simp; omega) (by omega) hc2 fun j y hy => hc3 j y (by rw [List.getElem?_take] at hy; split at hy; exact hy; cases hy)
  have q2 : BytesAt w (.slice (some ⟨b, o + 2, none⟩) 2 (c - 2)) (xs.drop 2) := .mk' (by simp; omega) (by omega) (by omega) fun j y hy => by
    rw [List.getElem?_drop] at hy
    rw [Nat.add_assoc]
    exact hc3 _ y hy
  have l1 : (xs.take 2).length = 2 := by simp; omega
  have l2 : (xs.drop 2).length = 2 := by simp; omega
  have b1 := num_lt (xs.take 2)
  have b2 := num_lt (xs.drop 2)
  rw [l1] at b1
  rw [l2] at b2
  have e : num xs = num (xs.take 2) * 65536 + num (xs.drop 2) := by
    have := num_append (xs.take 2) (xs.drop 2)
    rw [List.take_append_drop, l2] at this
    exact this
  rw [e]
  generalize hn1 : num (xs.take 2) = n1 at b1 ⊢
  generalize hn2 : num (xs.drop 2) = n2 at b2 ⊢
  have b1' : n1 < 65536 := b1
  have b2' : n2 < 65536 := b2
  have H1 := fun m => (number2 (w.drewN m) _ _ q1 l1)
  have H2 := fun m => (number2 (w.drewN m) _ _ q2 l2)
  rw [hn1] at H1
  rw [hn2] at H2
  have C1 := Lib.hid H1
  have C2 := Lib.hid H2
  clear H1 H2 hn1 hn2 q1 q2 l1 l2 e hl b1 b2 hb hc3
  have z1 : IntKind.i64.wrap 2 = 2 := rfl
  have z2 : IntKind.i64.wrap 16 = 16 := rfl
  have z3 : (2 : Int) ≤ (c : Int) := by omega
  have z4 : ¬ c = 2 := by omega
  go_enter Tryz.func123, Tryz.ntmps123
  go_wp2
  go_quiet (first | (go_at_call_of 123 (Value.slice (some ⟨b, o, none⟩) 2 c); exact Calls.quiet_of (C1.out _)) | (exact Calls.quiet_of (C2.out _)))
  go_wp2
  go_ret
  exact ⟨by simp [Array.getD], _, rfl⟩

set_option maxHeartbeats 1000000 in
theorem number8 (w : World) (v : Value) (xs : List UInt8) (hb : BytesAt w v xs) (hl : xs.length = 8) :
    Calls Tryz.prog 123 #[v] w fun e w' => e = .returned (.int .u64 (num xs : Nat)) ∧ ∃ m, w' = w.drewN m := by
  obtain ⟨b, o, c, rfl, hc1, hc2, hc3⟩ := hb.open (by omega)
  rw [hl] at hc1 ⊢
  have q1 : BytesAt w (.slice (some ⟨b, o, none⟩) 4 c) (xs.take 4) := .mk' (by simp; omega) (by omega) hc2 fun j y hy => hc3 j y (by rw [List.getElem?_take] at hy; split at hy; exact hy; cases hy)
  have q2 : BytesAt w (.slice (some ⟨b, o + 4, none⟩) 4 (c - 4)) (xs.drop 4) := .mk' (by simp; omega) (by omega) (by omega) fun j y hy => by
    rw [List.getElem?_drop] at hy
    rw [Nat.add_assoc]
    exact hc3 _ y hy
  have l1 : (xs.take 4).length = 4 := by simp; omega
  have l2 : (xs.drop 4).length = 4 := by simp; omega
  have b1 := num_lt (xs.take 4)
  have b2 := num_lt (xs.drop 4)
  rw [l1] at b1
  rw [l2] at b2
  have e : num xs = num (xs.take 4) * 4294967296 + num (xs.drop 4) := by
    have := num_append (xs.take 4) (xs.drop 4)
    rw [List.take_append_drop, l2] at this
    exact this
  rw [e]
  generalize hn1 : num (xs.take 4) = n1 at b1 ⊢
  generalize hn2 : num (xs.drop 4) = n2 at b2 ⊢
  have b1' : n1 < 4294967296 := b1
  have b2' : n2 < 4294967296 := b2
  have H1 := fun m => (number4 (w.drewN m) _ _ q1 l1)
  have H2 := fun m => (number4 (w.drewN m) _ _ q2 l2)
  rw [hn1] at H1
  rw [hn2] at H2
  have C1 := Lib.hid H1
  have C2 := Lib.hid H2
  clear H1 H2 hn1 hn2 q1 q2 l1 l2 e hl b1 b2 hb hc3
  have z1 : IntKind.i64.wrap 4 = 4 := rfl
  have z2 : IntKind.i64.wrap 32 = 32 := rfl
  have z3 : (4 : Int) ≤ (c : Int) := by omega
  have z4 : ¬ c = 4 := by omega
  go_enter Tryz.func123, Tryz.ntmps123
  go_wp2
  go_quiet (first | (go_at_call_of 123 (Value.slice (some ⟨b, o, none⟩) 4 c); exact Calls.quiet_of (C1.out _)) | (exact Calls.quiet_of (C2.out _)))
  go_wp2
  go_ret
  exact ⟨by simp [Array.getD], _, rfl⟩

end Go.Proofs.YtlfmkiclaijokaaGreatDoor
