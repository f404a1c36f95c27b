/- The reference's Fix, by its equations. -/
import Derived.Test.YtojgdejofpafkaaCrcRefLaw
import Derived.Test.YtojgdejofpafkaaCrcForced
import Derived.Test.YtojgdejofpafkaaCrc8
import Derived.Deep.CutBlock
namespace Go.Proofs.Ytojgdejofpafkaa
set_option pp.deepTerms true
set_option pp.maxSteps 1000000
open Go.RowKit
set_option linter.unusedVariables false

theorem info_u32 : (Try.prog.info? 24).map (fun i => (i.zero, i.size, i.bytes)) = some (some (.int .u32 0), 1, 4) := by kernel_rfl

/-- What the reference's Fix answers. -/
def GotRef (u : World) (F : HProp) (xs : List UInt8) (at_ : Int) (want : BitVec 32) (e : Ending) (w' : World) : Prop :=
  (0 ≤ at_ ∧ at_ + 4 ≤ xs.length ∧ ∃ a c, e = .returned (.tuple #[.slice a xs.length c, .bool true]) ∧ Sat u w' (ownT 5 (.slice a xs.length c) (fixB xs at_.toNat want) * F)) ∨
  (¬ (0 ≤ at_ ∧ at_ + 4 ≤ xs.length) ∧ e = .returned (.tuple #[.slice none 0 0, .bool false]) ∧ Sat u w' F)

set_option maxRecDepth 100000 in
set_option maxHeartbeats 1000000 in
theorem rfix_no (u w : World) (F : HProp) (v : Value) (xs : List UInt8) (at_ : Int) (want : BitVec 32) (hb : BytesAt w v xs) (hs : Sat u w F) (hcap : xs.length ≤ 1000000) (h0 : -9223372036854775808 ≤ at_) (h1 : at_ ≤ 9223372036854775807)
    (hn : ¬ (0 ≤ at_ ∧ at_ + 4 ≤ xs.length)) : Calls Try.prog 19 #[v, .int .i64 at_, w32 want] w (GotRef u F xs at_ want) := by
  obtain ⟨a, c, rfl, ho1, ho2⟩ := RowAt.len hb
  have hw : IntKind.i64.wrap ((xs.length : Int) - 4) = (xs.length : Int) - 4 := IntWalk.i64_in _ (by omega)
  by_cases hneg : at_ < 0
  · have d1 : decide (at_ < 0) = true := by simpa using hneg
    go_enter Try.func19, Try.ntmps19
    go_wp2_with fail
    go_ret2
    exact .inr ⟨hn, rfl, hs⟩
  · have d1 : decide (at_ < 0) = false := by simpa using hneg
    have d2 : decide ((xs.length : Int) - 4 < at_) = true := by simp; omega
    go_enter Try.func19, Try.ntmps19
    go_wp2_with fail
    go_ret2
    exact .inr ⟨hn, rfl, hs⟩

/-- The row behind k rounds of the first loop. -/
def zl (xs : List UInt8) (p : Nat) : Nat → List UInt8
  | 0 => xs
  | k + 1 => (zl xs p k).set (p + k) 0

theorem zl_length (xs : List UInt8) (p : Nat) : ∀ k, (zl xs p k).length = xs.length
  | 0 => rfl
  | k + 1 => by unfold zl; rw [List.length_set, zl_length xs p k]

theorem zl_four (xs : List UInt8) (p : Nat) (h : p + 4 ≤ xs.length) : zl xs p 4 = zeroB xs p := zeroB_eq xs p h

theorem rowIsB.at {u w : World} {F : HProp} {g cap : Nat} {cur : Array Value} {t : TypeId} {fr : Nat × Nat} {l : List UInt8} (h : rowIsB cur l) (hs : Sat u w (own g (.cells cur t fr) * F)) (h1 : l.length ≤ cap) (h2 : cap ≤ maxLen) :
    BytesAt w (.slice (some ⟨g, 0, none⟩) l.length cap) l := by
  refine .inr ⟨_, _, rfl, h1, h2, fun j v hv => ?_⟩
  rw [addr_add, hs.cell]
  rw [← h.1, List.getElem?_take] at hv
  split at hv
  · simpa using hv
  · cases hv

/-- The first k numbers, as cells. -/
def rowN (a : Nat → BitVec 32) (k : Nat) : List Value := (List.range k).map fun j => Value.int .u32 ((a j).toNat : Int)

theorem rowN_succ (a : Nat → BitVec 32) (k : Nat) : rowN a (k + 1) = rowN a k ++ [.int .u32 ((a k).toNat : Int)] := by
  unfold rowN
  rw [List.range_succ, List.map_append]
  rfl

theorem rowN_length (a : Nat → BitVec 32) (k : Nat) : (rowN a k).length = k := by simp [rowN]

theorem rowN_is {cur : Array Value} {a : Nat → BitVec 32} (h : cur.toList.take 32 = rowN a 32) : rowIsN cur a := by
  intro i hi
  have e : (cur.toList.take 32)[i]? = (rowN a 32)[i]? := by rw [h]
  rw [List.getElem?_take, if_pos hi] at e
  rw [← Array.getElem?_toList, e]
  unfold rowN
  simp [hi]

theorem zeroB_take (xs : List UInt8) (p : Nat) (h : p + 4 ≤ xs.length) : (zeroB xs p).take p = xs.take p := by
  unfold zeroB
  rw [List.take_append_of_le_length (by simp; omega), List.take_of_length_le (by simp; omega)]

theorem zeroB_drop (xs : List UInt8) (p : Nat) (h : p + 4 ≤ xs.length) : (zeroB xs p).drop (p + 4) = xs.drop (p + 4) := by
  unfold zeroB
  rw [← List.append_assoc]
  exact List.drop_left' (by simp; omega)

/-- The row behind k rounds of the last loop. -/
def hl (xs : List UInt8) (p : Nat) (x : BitVec 32) : Nat → List UInt8
  | 0 => zeroB xs p
  | k + 1 => (hl xs p x k).set (p + k) (byteB x k)

theorem hl_length (xs : List UInt8) (p : Nat) (x : BitVec 32) (h : p + 4 ≤ xs.length) : ∀ k, (hl xs p x k).length = xs.length
  | 0 => zeroB_length xs p h
  | k + 1 => by unfold hl; rw [List.length_set, hl_length xs p x h k]

theorem hl_four (xs : List UInt8) (p : Nat) (x : BitVec 32) (h : p + 4 ≤ xs.length) : hl xs p x 4 = xs.take p ++ (bytesB x ++ xs.drop (p + 4)) := by
  have := set_four (zeroB xs p) p (by rw [zeroB_length xs p h]; exact h) (byteB x 0) (byteB x 1) (byteB x 2) (byteB x 3)
  rw [zeroB_take xs p h, zeroB_drop xs p h] at this
  exact this

theorem shr_div (x : BitVec 32) (n : Nat) : HDiv.hDiv (x.toNat : Int) (HPow.hPow (2 : Int) n) = ((x >>> n).toNat : Int) := by
  rw [BitVec.toNat_ushiftRight, Nat.shiftRight_eq_div_pow]
  simp

theorem and_one (x : BitVec 32) (n : Nat) : bits .and .u32 (HDiv.hDiv (x.toNat : Int) (HPow.hPow (2 : Int) n)) 1 = (if x.getLsbD n then 1 else 0) := by
  have h : bits .and .u32 ((x >>> n).toNat : Int) 1 = (((x >>> n) &&& 1#32).toNat : Int) := and32 (x >>> n) 1#32
  rw [shr_div, h, bit0, BitVec.getLsbD_ushiftRight, Nat.add_zero]
  cases x.getLsbD n <;> rfl

theorem bitq0 (x : BitVec 32) (n : Nat) : (bits .and .u32 (HDiv.hDiv (x.toNat : Int) (HPow.hPow (2 : Int) n)) 1 == 0) = !x.getLsbD n := by
  rw [and_one]
  cases x.getLsbD n <;> rfl

theorem bitq1 (x : BitVec 32) (n : Nat) : (bits .and .u32 (HDiv.hDiv (x.toNat : Int) (HPow.hPow (2 : Int) n)) 1 == 1) = x.getLsbD n := by
  rw [and_one]
  cases x.getLsbD n <;> rfl

set_option maxRecDepth 100000 in
set_option maxHeartbeats 20000000 in
theorem rfix_yes (u w : World) (F : HProp) (v : Value) (xs : List UInt8) (p : Nat) (want : BitVec 32) (hb : BytesAt w v xs) (hs : Sat u w F) (hcap : xs.length ≤ 1000000) (hp4 : p + 4 ≤ xs.length) :
    Calls Try.prog 19 #[v, .int .i64 p, w32 want] w (GotRef u F xs p want) := by
  obtain ⟨b0, o0, c, rfl, ho1, ho2, _⟩ := hb.open (by omega)
  obtain ⟨i0, hi, hz0, hz1, hz2⟩ := info_parts info_u32
  have hw : IntKind.i64.wrap ((xs.length : Int) - 4) = (xs.length : Int) - 4 := IntWalk.i64_in _ (by omega)
  have d1 : decide ((p : Int) < 0) = false := by simp
  have d2 : decide ((xs.length : Int) - 4 < p) = false := by simp; omega
  have hz := run_string_of (P := Try.prog) hb 22 9 5 Try.underlying22 Try.underlying5 Try.underlying9
  clear hb
  go_enter Try.func19, Try.ntmps19
  go_wp2_with (refine wpList_toBytes rfl 9 22 5 _ rfl (str xs) rfl Try.underlying9 Try.underlying22 Try.underlying5 hs (by show xs.length ≤ _; omega) ?_; intro a5 c5 w5 h5)
  clear hz hs
  have hz : (str xs).data.toList = xs := rfl
  rw [hz] at h5
  clear hz
  obtain ⟨gy, cy, cury, hv, r1, r2, r3, r4, h6⟩ := Sat.ownT_iff.1 h5
  cases hv
  clear h5
  rw [r3] at h6
  have hr0 : rowIsB cury xs := ⟨r4, by omega⟩
  clear r1 r4
  have hc5 : xs.length ≤ c5 := by have h1 := hr0.2; rw [r3] at h1; exact h1
  have h60 : rowIsB cury (zl xs p 0) := hr0
  have h61 : cury.size = c5 := r3
  clear r3
  clear hr0
  go_loopw [9] (fun t wr => ∃ k : Nat, k ≤ 4 ∧ t = .int .i64 k ∧ ∃ cur, cur.size = c5 ∧ rowIsB cur (zl xs p k) ∧ Sat u wr (own gy (.cells cur 5 (c5, c5 + 1)) * F)) (fun t _ => 4 - (intOf t).toNat)
  case atStart => exact ⟨0, by omega, rfl, cury, h61, h60, h6⟩
  case round =>
    clear h60 h61 h6
    obtain ⟨k, hk4, rfl, cur1, hcs, hc1, h7⟩ := hrel
    by_cases hlt : k < 4
    · have hset := h7.setCell (p + k) (B 0)
      have hrow : rowIsB (cur1.setIfInBounds (p + k) (B 0)) (zl xs p (k + 1)) := hc1.set _ _
      have hsz : (cur1.setIfInBounds (p + k) (B 0)).size = c5 := by rw [Array.size_setIfInBounds]; exact hcs
      have f0 := h7.freeT (i := p + k) (by omega)
      obtain ⟨v0, hv0⟩ := hc1.has (i := p + k) (by rw [zl_length]; omega)
      have c0 := h7.cell (p + k)
      rw [hv0] at c0
      have HROW := Lib.hid hrow
      have HSZ := Lib.hid hsz
      have y6 : (p : Int) + k < xs.length := by omega
      have y7 : (0 : Int) ≤ (p : Int) + k := by omega
      have y8 : ((p : Int) + k).toNat = p + k := by omega
      clear hv0 h7 hrow hsz hc1 hcs
      go_wp2_with fail
      go_roundw
      case rel => exact ⟨k + 1, by omega, by go_num, _, HSZ.out, HROW.out, hset⟩
      case measure => simp [intOf]; omega
    · have h44 : k = 4 := by omega
      subst h44
      rw [show ((4 : Nat) : Int) = 4 from rfl]
      have hzl := zeroB_length xs p hp4
      rw [zl_four xs p hp4] at hc1
      have hat : ∀ (x : World) (G : HProp), Sat u x (own gy (.cells cur1 5 (c5, c5 + 1)) * G) → BytesAt x (.slice (some ⟨gy, 0, none⟩) xs.length c5) (zeroB xs p) := fun x G h => by
        have := hc1.at h (cap := c5) (by rw [hzl]; exact hc5) r2
        rwa [hzl] at this
      have HCS := Lib.hid hcs
      have HC1 := Lib.hid hc1
      have HZL := Lib.hid hzl
      clear hcs hc1 hzl hlt hk4
      go_wp2_with fail
      refine (refSum_any u wr _ _ (zeroB xs p) (hat _ _ h7) (by rw [HZL.out]; exact hcap) h7 (fun w' h => hat _ _ h)).mono ?_
      rintro e w6 ⟨rfl, h8⟩
      dsimp only
      clear h7 hat
      go_wp2_with fail
      have h9 : Sat u w6 (ownRow 24 1 (.slice none 0 0) 0 (rowN (addN (xs.drop (p + 4))) 0) * (ownRow 24 1 (.slice none 0 0) 0 (rowN bitN 0) * (own gy (.cells cur1 5 (c5, c5 + 1)) * F))) := Sat.row_nil (Sat.row_nil h8)
      clear h8
      go_loopw [11, 12, 13] (fun va vb t wr => ∃ k : Nat, k ≤ 32 ∧ t = .int .i64 k ∧ ∃ cur, cur.size = c5 ∧ rowIsB cur (zeroB xs p) ∧ Sat u wr (ownRow 24 1 va k (rowN (addN (xs.drop (p + 4))) k) * (ownRow 24 1 vb k (rowN bitN k) * (own gy (.cells cur 5 (c5, c5 + 1)) * F)))) (fun _ _ t _ => 32 - (intOf t).toNat)
      case atStart => exact ⟨0, by omega, rfl, cur1, HCS.out, HC1.out, h9⟩
      case round =>
        clear h9 HCS HC1 cur1
        obtain ⟨k, hk, rfl, cur2, hcs2, hc2, h10⟩ := hrel
        by_cases hk32 : k < 32
        · have hv : (128 : Int) / (2 : Int) ^ (k % 8) = ((UInt8.ofNat (128 >>> (k % 8))).toNat : Int) := by
            have : k % 8 = 0 ∨ k % 8 = 1 ∨ k % 8 = 2 ∨ k % 8 = 3 ∨ k % 8 = 4 ∨ k % 8 = 5 ∨ k % 8 = 6 ∨ k % 8 = 7 := by omega
            rcases this with h | h | h | h | h | h | h | h <;> rw [h] <;> rfl
          have h11 := (h10.s3.setCell (p + k / 8) (.int .u8 ((128 : Int) / 2 ^ (k % 8))))
          have hrow : rowIsB (cur2.setIfInBounds (p + k / 8) (.int .u8 ((128 : Int) / 2 ^ (k % 8)))) ((zeroB xs p).set (p + k / 8) (UInt8.ofNat (128 >>> (k % 8)))) := by
            rw [hv]
            exact hc2.set _ _
          have hsz : (cur2.setIfInBounds (p + k / 8) (.int .u8 ((128 : Int) / 2 ^ (k % 8)))).size = c5 := by rw [Array.size_setIfInBounds]; exact hcs2
          have hsum := sum_bit xs p k hp4 hk32
          have hback := zero_back xs p k hp4 hk32 (UInt8.ofNat (128 >>> (k % 8)))
          have hll : ((zeroB xs p).set (p + k / 8) (UInt8.ofNat (128 >>> (k % 8)))).length = xs.length := by rw [List.length_set]; exact HZL.out
          have f0 := h10.s3.freeT (i := p + k / 8) (by omega)
          obtain ⟨v0, hv0⟩ := hc2.has (i := p + k / 8) (by rw [HZL.out]; omega)
          have c0 := h10.s3.cell (p + k / 8)
          rw [hv0] at c0
          generalize (zeroB xs p).set (p + k / 8) (UInt8.ofNat (128 >>> (k % 8))) = l1 at hrow hsum hback hll
          generalize hq : cur2.setIfInBounds (p + k / 8) (.int .u8 ((128 : Int) / 2 ^ (k % 8))) = cur3 at h11 hrow hsz
          have hat : ∀ (x : World) (G : HProp), Sat u x (own gy (.cells cur3 5 (c5, c5 + 1)) * G) → BytesAt x (.slice (some ⟨gy, 0, none⟩) xs.length c5) l1 := fun x G h => by
            have := hrow.at h (cap := c5) (by rw [hll]; exact hc5) r2
            rwa [hll] at this
          have hxx : bits .xor .u32 ((sumB l1).toNat : Int) ((sumB (zeroB xs p)).toNat : Int) = ((addN (xs.drop (p + 4)) k).toNat : Int) := by
            rw [xor32, hsum]
          have hshl : HMod.hMod ((2 : Int) ^ (31 - k)) (4294967296 : Int) = ((bitN k).toNat : Int) := by
            unfold bitN
            rw [BitVec.toNat_twoPow]
            simp
          have HBACK := Lib.hid hback
          have HSZ := Lib.hid hsz
          have HLL := Lib.hid hll
          have HROW := Lib.hid hrow
          have HAT := Lib.hid hat
          have y6 : (p : Int) + (k : Int) / 8 < xs.length := by omega
          have y7 : (0 : Int) ≤ (p : Int) + (k : Int) / 8 := by omega
          clear hv hq hv0 hsum hback hll hat hrow hsz h10 hcs2 hc2
          go_wp2_with fail
          refine (refSum_any u _ _ _ l1 (HAT.out _ _ h11) (by rw [HLL.out]; exact hcap) h11 (fun w' h => HAT.out _ _ h)).mono ?_
          rintro e w7 ⟨rfl, h12⟩
          dsimp only
          clear h11 c0 f0
          go_wp2_with (first
            | (at_builtin; refine wpList_append_sl rfl _ _ 74 rfl i0 (.int .u32 0) Try.underlying74 hi hz0 hz1 hz2 rfl (by decide) rfl rfl (h12.s2.alloc (.cells #[.int .u32 ((addN (xs.drop (p + 4)) k).toNat : Int)] 24)).right (one_at (x := .int .u32 ((addN (xs.drop (p + 4)) k).toNat : Int)) h12.s2 24) rfl (by intro q hq; cases hq with | head => rfl | tail _ hq => cases hq) (by omega) ?_; intro a3 c3 w8 h13 hx; clear hx)
            | (at_builtin; refine wpList_append_sl rfl _ _ 74 rfl i0 (.int .u32 0) Try.underlying74 hi hz0 hz1 hz2 rfl (by decide) rfl rfl (h13.s3.alloc (.cells #[.int .u32 ((bitN k).toNat : Int)] 24)).right (one_at (x := .int .u32 ((bitN k).toNat : Int)) h13.s3 24) rfl (by intro q hq; cases hq with | head => rfl | tail _ hq => cases hq) (by omega) ?_; intro a4 c4 w9 h14 hx; clear hx; have f1 := h14.s3.freeT (i := p + k / 8) (by omega); obtain ⟨v1, hv1⟩ := HROW.out.has (i := p + k / 8) (by rw [HLL.out]; omega); have c1 := h14.s3.cell (p + k / 8); rw [hv1] at c1; clear hv1)
            | fail)
          go_roundw
          case rel =>
            refine ⟨k + 1, by omega, by go_num, cur3.setIfInBounds (p + k / 8) (B 0), by rw [Array.size_setIfInBounds]; exact HSZ.out, ?_, ?_⟩
            · have := HROW.out.set (p + k / 8) 0
              rwa [HBACK.out] at this
            · rw [rowN_succ, rowN_succ]
              have h15 := h14.s3.setCell (p + k / 8) (B 0)
              exact h15.eq (by ac_rfl)
          case measure => simp [intOf]; omega
        · have h32 : k = 32 := by omega
          subst h32
          rw [show ((32 : Nat) : Int) = 32 from rfl]
          rcases Sat.row_iff.1 h10 with ⟨_, h0, _, _⟩ | ⟨ga, capa, cura, hva, a1, a2, a3, a4, a5, h11⟩
          · omega
          subst hva
          rcases Sat.row_iff.1 h11.s2 with ⟨_, h0, _, _⟩ | ⟨gb, capb, curb, hvb, b1, b2, b3, b4, b5, h12⟩
          · omega
          subst hvb
          have hna := rowN_is a4
          have hnb := rowN_is b4
          have hsol := solved_start (xs.drop (p + 4))
          clear h10 h11 a1 a2 a3 a4 a5 b1 b2 b3 b4 b5 hk32 hk
          have h13 : ∃ fa fb cura curb, Solved (addB (xs.drop (p + 4))) fa fb 0 ∧ rowIsN cura fa ∧ rowIsN curb fb ∧ Sat u wr (own ga (.cells cura 24 (0, 0)) * (own gb (.cells curb 24 (0, 0)) * (own gy (.cells cur2 5 (c5, c5 + 1)) * F))) := ⟨_, _, _, _, hsol, hna, hnb, h12.s2⟩
          clear hsol hna hnb h12 cura curb
          go_wp2_with fail
          go_loopw [15] (fun t wr => ∃ n : Nat, n ≤ 32 ∧ t = .int .i64 n ∧ ∃ fa fb cura curb, Solved (addB (xs.drop (p + 4))) fa fb n ∧ rowIsN cura fa ∧ rowIsN curb fb ∧ Sat u wr (own ga (.cells cura 24 (0, 0)) * (own gb (.cells curb 24 (0, 0)) * (own gy (.cells cur2 5 (c5, c5 + 1)) * F)))) (fun t _ => 32 - (intOf t).toNat)
          case atStart =>
            obtain ⟨fa, fb, cura, curb, h⟩ := h13
            exact ⟨0, by omega, rfl, fa, fb, cura, curb, h⟩
          case round =>
            clear h13
            obtain ⟨n, hn, rfl, fa, fb, cura, curb, hsol, hna, hnb, h14⟩ := hrel
            by_cases hn32 : n < 32
            · obtain ⟨q0, hq1, hq2, hq3⟩ := hsol.pivot hn32
              have dn : decide ((n : Int) < 32) = true := by simp; omega
              go_upto_block 6 with fail
              go_cut [16] (fun t wr => ∃ q : Nat, n ≤ q ∧ q < 32 ∧ t = .int .i64 q ∧ (fa q).getLsbD n = true ∧ Sat u wr (own ga (.cells cura 24 (0, 0)) * (own gb (.cells curb 24 (0, 0)) * (own gy (.cells cur2 5 (c5, c5 + 1)) * F))))
              case first J K' hJ hmet =>
                go_wp2_with fail
                go_loopw [16] (fun t wr => ∃ q : Nat, n ≤ q ∧ q < 32 ∧ t = .int .i64 q ∧ (∀ j, n ≤ j → j < q → (fa j).getLsbD n = false) ∧ Sat u wr (own ga (.cells cura 24 (0, 0)) * (own gb (.cells curb 24 (0, 0)) * (own gy (.cells cur2 5 (c5, c5 + 1)) * F)))) (fun t _ => 32 - (intOf t).toNat)
                case atStart => exact ⟨n, by omega, hn32, rfl, fun j h1 h2 => by omega, h14⟩
                case round =>
                  clear h14
                  obtain ⟨q, hq4, hq5, rfl, hq6, h15⟩ := hrel
                  have ca := h15.cell q
                  rw [hna q hq5] at ca
                  have HQ6 := Lib.hid hq6
                  have b0 := bitq0 (fa q) n
                  clear hq6
                  by_cases hq31 : q < 31
                  · cases hbit : (fa q).getLsbD n with
                    | false =>
                      rw [hbit] at b0
                      have HBIT := Lib.hid hbit
                      clear hbit
                      go_wp2_with fail
                      go_roundw
                      case rel =>
                        refine ⟨q + 1, by omega, by omega, by go_num, fun j h1 h2 => ?_, h15⟩
                        by_cases e : j = q
                        · subst e; exact HBIT.out
                        · exact HQ6.out j h1 (by omega)
                      case measure => simp [intOf]; omega
                    | true =>
                      rw [hbit] at b0
                      have HBIT := Lib.hid hbit
                      clear hbit
                      go_wp2_with fail
                      go_meet
                      exact ⟨q, hq4, hq5, rfl, HBIT.out, h15⟩
                  · have e : q = 31 := by omega
                    have hbit : (fa q).getLsbD n = true := by
                      by_cases h : q0 < q
                      · rw [HQ6.out q0 hq1 h] at hq3; cases hq3
                      · have : q0 = q := by omega
                        rw [← this]; exact hq3
                    have HBIT := Lib.hid hbit
                    clear hbit e
                    go_wp2_with fail
                    go_meet
                    exact ⟨q, hq4, hq5, rfl, HBIT.out, h15⟩
              case rest =>
                obtain ⟨q, hq4, hq5, rfl, hq6, h15⟩ := hcut
                clear h14 hq1 hq2 hq3 q0
                have k1 := h15.cell n
                have k2 := h15.cell q
                rw [hna n hn32] at k1
                rw [hna q hq5] at k2
                have g1 := h15.free n
                have g2 := h15.free q
                have h16 := h15.setCell n (.int .u32 ((fa q).toNat : Int))
                have hna1 := hna.set n (fa q)
                have k3 := h16.cell q
                rw [hna1 q hq5] at k3
                have e3 : (if q = n then fa q else fa q) = fa q := by split <;> rfl
                dsimp only at k3
                rw [e3] at k3
                have g3 := h16.free q
                have h17 := (h16.setCell q (.int .u32 ((fa n).toNat : Int))).drew
                have hna2 := hna1.set q (fa n)
                have e4 : (fun j => if j = q then fa n else if j = n then fa q else fa j) = swp fa n q := swp_fun fa n q
                rw [e4] at hna2
                have HNA2 := Lib.hid hna2
                have y1 : (q : Int) < 32 := by omega
                have y2 : (n : Int) < 32 := by omega
                clear h15 h16 hna1 hna2 e3 e4
                go_wp2_with fail
                go_region
                clear k1 k2 k3 g1 g2 g3
                generalize World.drew _ = w17 at h17 ⊢
                have k1 := h17.s2.cell n
                have k2 := h17.s2.cell q
                rw [hnb n hn32] at k1
                rw [hnb q hq5] at k2
                have g1 := h17.s2.free n
                have g2 := h17.s2.free q
                have h16 := h17.s2.setCell n (.int .u32 ((fb q).toNat : Int))
                have hnb1 := hnb.set n (fb q)
                have k3 := h16.cell q
                rw [hnb1 q hq5] at k3
                have e3 : (if q = n then fb q else fb q) = fb q := by split <;> rfl
                dsimp only at k3
                rw [e3] at k3
                have g3 := h16.free q
                have h18 := (h16.setCell q (.int .u32 ((fb n).toNat : Int))).drew.s2
                have hnb2 := hnb1.set q (fb n)
                have e4 : (fun j => if j = q then fb n else if j = n then fb q else fb j) = swp fb n q := swp_fun fb n q
                rw [e4] at hnb2
                have HNB2 := Lib.hid hnb2
                clear h16 h17 hnb1 hnb2 e3 e4
                go_wp2_with fail
                go_region
                clear k1 k2 k3 g1 g2 g3
                generalize World.drew _ = w18 at h18 ⊢
                have ham : Amid (addB (xs.drop (p + 4))) (swp fa n q) (swp fb n q) n 0 := ⟨hsol.swap hq4 hq5, by rw [swp_n]; exact hq6, fun i hi => by omega⟩
                have h19 : ∃ fa fb cura curb, Amid (addB (xs.drop (p + 4))) fa fb n 0 ∧ rowIsN cura fa ∧ rowIsN curb fb ∧ Sat u w18 (own ga (.cells cura 24 (0, 0)) * (own gb (.cells curb 24 (0, 0)) * (own gy (.cells cur2 5 (c5, c5 + 1)) * F))) := ⟨_, _, _, _, ham, HNA2.out, HNB2.out, h18⟩
                clear ham HNA2 HNB2 h18 hsol hna hnb hq4 hq6 cura curb y1
                go_wp2_with fail
                go_loopw [17] (fun t wr => ∃ m : Nat, m ≤ 32 ∧ t = .int .i64 m ∧ ∃ fa fb cura curb, Amid (addB (xs.drop (p + 4))) fa fb n m ∧ rowIsN cura fa ∧ rowIsN curb fb ∧ Sat u wr (own ga (.cells cura 24 (0, 0)) * (own gb (.cells curb 24 (0, 0)) * (own gy (.cells cur2 5 (c5, c5 + 1)) * F)))) (fun t _ => 32 - (intOf t).toNat)
                case atStart =>
                  obtain ⟨fa, fb, cura, curb, h⟩ := h19
                  exact ⟨0, by omega, rfl, fa, fb, cura, curb, h⟩
                case round =>
                  clear h19
                  obtain ⟨m, hm, rfl, fa, fb, cura, curb, ham, hna, hnb, h20⟩ := hrel
                  by_cases hm32 : m < 32
                  · have y3 : (m : Int) < 32 := by omega
                    by_cases hmn : m = n
                    · subst hmn
                      have HAM := Lib.hid (ham.skip (.inl rfl))
                      clear ham
                      go_wp2_with fail
                      go_roundw
                      case rel => exact ⟨m + 1, by omega, by go_num, fa, fb, cura, curb, HAM.out, hna, hnb, h20⟩
                      case measure => simp [intOf]; omega
                    · have dm1 : ((m : Int) == (n : Int)) = false := by simp; omega
                      have dm2 : ((m : Int) != (n : Int)) = true := by simp; omega
                      have k1 := h20.cell m
                      rw [hna m hm32] at k1
                      have b1 := bitq1 (fa m) n
                      cases hbit : (fa m).getLsbD n with
                      | false =>
                        rw [hbit] at b1
                        have HAM := Lib.hid (ham.skip (.inr hbit))
                        clear ham hbit
                        go_wp2_with fail
                        go_roundw
                        case rel => exact ⟨m + 1, by omega, by go_num, fa, fb, cura, curb, HAM.out, hna, hnb, h20⟩
                        case measure => simp [intOf]; omega
                      | true =>
                        rw [hbit] at b1
                        have HAM := Lib.hid (ham.add (addB_xor _) hn32 hm32 hmn hbit)
                        clear ham hbit
                        have k2 := h20.cell n
                        rw [hna n hn32] at k2
                        have g1 := h20.free m
                        obtain ⟨xa, hxa⟩ : ∃ xa, fa m ^^^ fa n = xa := ⟨_, rfl⟩
                        have hxx : bits .xor .u32 ((fa m).toNat : Int) ((fa n).toNat : Int) = (xa.toNat : Int) := by rw [xor32, hxa]
                        have h21 := (h20.setCell m (.int .u32 (xa.toNat : Int))).drew
                        have hna1 := hna.set m xa
                        have e4 : (fun j => if j = m then xa else fa j) = addTo fa n m := by rw [← hxa]; rfl
                        rw [e4] at hna1
                        have HNA := Lib.hid hna1
                        clear e4 hna1 hna h20 hxa
                        go_wp2_with fail
                        go_region
                        clear k1 k2 g1 hxx b1
                        generalize World.drew _ = w21 at h21 ⊢
                        have k1 := h21.s2.cell m
                        rw [hnb m hm32] at k1
                        have k2 := h21.s2.cell n
                        rw [hnb n hn32] at k2
                        have g1 := h21.s2.free m
                        obtain ⟨xb, hxb⟩ : ∃ xb, fb m ^^^ fb n = xb := ⟨_, rfl⟩
                        have hxx : bits .xor .u32 ((fb m).toNat : Int) ((fb n).toNat : Int) = (xb.toNat : Int) := by rw [xor32, hxb]
                        have h22 := (h21.s2.setCell m (.int .u32 (xb.toNat : Int))).drew.s2
                        have hnb1 := hnb.set m xb
                        have e4 : (fun j => if j = m then xb else fb j) = addTo fb n m := by rw [← hxb]; rfl
                        rw [e4] at hnb1
                        have HNB := Lib.hid hnb1
                        clear e4 hnb1 hnb h21 hxb
                        go_wp2_with fail
                        go_region
                        clear k1 k2 g1 hxx
                        go_wp2_with fail
                        go_roundw
                        case rel => exact ⟨m + 1, by omega, by go_num, _, _, _, _, HAM.out, HNA.out, HNB.out, h22⟩
                        case measure => simp [intOf]; omega
                  · have e32 : m = 32 := by omega
                    subst e32
                    have hdone := ham.done
                    have HD := Lib.hid hdone
                    clear ham hdone
                    go_wp2_with fail
                    go_roundw
                    case rel => exact ⟨n + 1, by omega, by go_num, fa, fb, cura, curb, HD.out, hna, hnb, h20⟩
                    case measure => simp [intOf]; omega
            · have e32 : n = 32 := by omega
              subst e32
              have hfix := solved_fix xs p want hsol
              obtain ⟨D, hD⟩ : ∃ D, want ^^^ sumB (zeroB xs p) = D := ⟨_, rfl⟩
              have hxx : bits .xor .u32 (want.toNat : Int) ((sumB (zeroB xs p)).toNat : Int) = (D.toNat : Int) := by rw [xor32, hD]
              rw [hD] at hfix
              have HFIX := Lib.hid hfix
              clear hfix hD hsol
              go_wp2_with fail
              go_loopw [14, 18] (fun x t wr => ∃ m : Nat, m ≤ 32 ∧ t = .int .i64 m ∧ x = w32 (solB fb D m) ∧ Sat u wr (own ga (.cells cura 24 (0, 0)) * (own gb (.cells curb 24 (0, 0)) * (own gy (.cells cur2 5 (c5, c5 + 1)) * F)))) (fun _ t _ => 32 - (intOf t).toNat)
              case atStart => exact ⟨0, by omega, rfl, rfl, h14⟩
              case round =>
                clear h14
                obtain ⟨m, hm, rfl, rfl, h15⟩ := hrel
                by_cases hm32 : m < 32
                · have y3 : (m : Int) < 32 := by omega
                  have b1 := bitq1 D m
                  have hst : solB fb D (m + 1) = if D.getLsbD m then solB fb D m ^^^ fb m else solB fb D m := rfl
                  have k1 := h15.s2.cell m
                  rw [hnb m hm32] at k1
                  cases hbit : D.getLsbD m with
                  | false =>
                    rw [hbit] at b1 hst
                    have HST := Lib.hid hst
                    clear hst hbit
                    go_wp2_with fail
                    go_roundw
                    case rel => exact ⟨m + 1, by omega, by go_num, by rw [HST.out]; rfl, h15⟩
                    case measure => simp [intOf]; omega
                  | true =>
                    rw [hbit, if_pos rfl] at hst
                    rw [hbit] at b1
                    have hsx : bits .xor .u32 ((solB fb D m).toNat : Int) ((fb m).toNat : Int) = ((solB fb D (m + 1)).toNat : Int) := by rw [xor32, hst]
                    clear hst hbit
                    go_wp2_with fail
                    go_roundw
                    case rel => exact ⟨m + 1, by omega, by go_num, rfl, h15⟩
                    case measure => simp [intOf]; omega
                · have e32 : m = 32 := by omega
                  subst e32
                  generalize solB fb D 32 = X at HFIX ⊢
                  have h16 := h15.right.right
                  clear h15 hna hnb hxx
                  go_wp2_with fail
                  go_loopw [19] (fun t wr => ∃ k : Nat, k ≤ 4 ∧ t = .int .i64 k ∧ ∃ cur, cur.size = c5 ∧ rowIsB cur (hl xs p X k) ∧ Sat u wr (own gy (.cells cur 5 (c5, c5 + 1)) * F)) (fun t _ => 4 - (intOf t).toNat)
                  case atStart => exact ⟨0, by omega, rfl, cur2, hcs2, hc2, h16⟩
                  case round =>
                    clear h16 hcs2 hc2
                    obtain ⟨k, hk4, rfl, cur3, hcs3, hc3, h17⟩ := hrel
                    by_cases hlt : k < 4
                    · have hset := h17.setCell (p + k) (B (byteB X k))
                      have hrow : rowIsB (cur3.setIfInBounds (p + k) (B (byteB X k))) (hl xs p X (k + 1)) := hc3.set _ _
                      have hsz : (cur3.setIfInBounds (p + k) (B (byteB X k))).size = c5 := by rw [Array.size_setIfInBounds]; exact hcs3
                      have hnum : k = 0 ∨ k = 1 ∨ k = 2 ∨ k = 3 := by omega
                      have f0 := h17.freeT (i := p + k) (by omega)
                      obtain ⟨v0, hv0⟩ := hc3.has (i := p + k) (by rw [hl_length xs p X hp4]; omega)
                      have c0 := h17.cell (p + k)
                      rw [hv0] at c0
                      have hb0 := byte_shift X k
                      have HS := Lib.hid hset
                      have HB := Lib.hid hb0
                      have HROW := Lib.hid hrow
                      have HSZ := Lib.hid hsz
                      clear hset hb0 hlt hk4 hrow hsz hv0 h17 hcs3 hc3
                      rcases hnum with rfl | rfl | rfl | rfl
                      · simp only [Nat.add_zero] at c0 f0
                        have y6 : (p : Int) + 0 < xs.length := by omega
                        have y7 : (0 : Int) ≤ (p : Int) + 0 := by omega
                        have y8 : ((p : Int) + 0).toNat = p + 0 := by omega
                        go_wp2_with fail
                        go_roundw
                        case rel =>
                          refine ⟨1, by omega, rfl, _, HSZ.out, HROW.out, ?_⟩
                          have hX := X.isLt
                          have h5 := HS.out
                          have e : B (byteB X 0) = .int .u8 ((X.toNat : Int) / 16777216) := by
                            unfold B
                            rw [HB.out]
                            show Value.int .u8 ((X.toNat / 16777216 % 256 : Nat) : Int) = _
                            congr 1 <;> omega
                          rw [e] at h5
                          rw [e]
                          exact h5
                        case measure => simp [intOf]
                      · have y6 : (p : Int) + 1 < xs.length := by omega
                        have y7 : (0 : Int) ≤ (p : Int) + 1 := by omega
                        have y8 : ((p : Int) + 1).toNat = p + 1 := by omega
                        go_wp2_with fail
                        go_roundw
                        case rel =>
                          refine ⟨2, by omega, rfl, _, HSZ.out, HROW.out, ?_⟩
                          have hX := X.isLt
                          have h5 := HS.out
                          have e : B (byteB X 1) = .int .u8 ((X.toNat : Int) / 65536 % 256) := by
                            unfold B
                            rw [HB.out]
                            show Value.int .u8 ((X.toNat / 65536 % 256 : Nat) : Int) = _
                            congr 1 <;> omega
                          rw [e] at h5
                          rw [e]
                          exact h5
                        case measure => simp [intOf]
                      · have y6 : (p : Int) + 2 < xs.length := by omega
                        have y7 : (0 : Int) ≤ (p : Int) + 2 := by omega
                        have y8 : ((p : Int) + 2).toNat = p + 2 := by omega
                        go_wp2_with fail
                        go_roundw
                        case rel =>
                          refine ⟨3, by omega, rfl, _, HSZ.out, HROW.out, ?_⟩
                          have hX := X.isLt
                          have h5 := HS.out
                          have e : B (byteB X 2) = .int .u8 ((X.toNat : Int) / 256 % 256) := by
                            unfold B
                            rw [HB.out]
                            show Value.int .u8 ((X.toNat / 256 % 256 : Nat) : Int) = _
                            congr 1 <;> omega
                          rw [e] at h5
                          rw [e]
                          exact h5
                        case measure => simp [intOf]
                      · have y6 : (p : Int) + 3 < xs.length := by omega
                        have y7 : (0 : Int) ≤ (p : Int) + 3 := by omega
                        have y8 : ((p : Int) + 3).toNat = p + 3 := by omega
                        go_wp2_with fail
                        go_roundw
                        case rel =>
                          refine ⟨4, by omega, rfl, _, HSZ.out, HROW.out, ?_⟩
                          have hX := X.isLt
                          have h5 := HS.out
                          have e : B (byteB X 3) = .int .u8 ((X.toNat : Int) % 256) := by
                            unfold B
                            rw [HB.out]
                            show Value.int .u8 ((X.toNat / 1 % 256 : Nat) : Int) = _
                            congr 1 <;> omega
                          rw [e] at h5
                          rw [e]
                          exact h5
                        case measure => simp [intOf]
                    · have h44 : k = 4 := by omega
                      subst h44
                      have hl4 := hl_length xs p X hp4 4
                      rw [hl_four xs p X hp4, HFIX.out] at hc3
                      rw [hl_four xs p X hp4, HFIX.out] at hl4
                      have h18 : Sat u wr (ownT 5 (.slice (some ⟨gy, 0, none⟩) xs.length c5) (fixB xs p want) * F) := by
                        refine Sat.ownT_iff.2 ⟨gy, c5, cur3, by rw [hl4], by rw [hl4]; exact hc5, r2, hcs3, hc3.1, by rw [hcs3]; exact h17⟩
                      clear h17 hc3 hcs3 hl4 HFIX hlt hk4
                      go_wp2_with fail
                      go_ret2
                      exact .inl ⟨by omega, by omega, _, _, rfl, h18⟩

theorem rfix_any (u w : World) (F : HProp) (v : Value) (xs : List UInt8) (at_ : Int) (want : BitVec 32) (hb : BytesAt w v xs) (hs : Sat u w F) (hcap : xs.length ≤ 1000000) (h0 : -9223372036854775808 ≤ at_) (h1 : at_ ≤ 9223372036854775807) :
    Calls Try.prog 19 #[v, .int .i64 at_, w32 want] w (GotRef u F xs at_ want) := by
  by_cases h : 0 ≤ at_ ∧ at_ + 4 ≤ xs.length
  · obtain ⟨n, rfl⟩ : ∃ n : Nat, at_ = n := ⟨at_.toNat, by omega⟩
    exact rfix_yes u w F v xs n want hb hs hcap (by omega)
  · exact rfix_no u w F v xs at_ want hb hs hcap h0 h1 h
end Go.Proofs.Ytojgdejofpafkaa
