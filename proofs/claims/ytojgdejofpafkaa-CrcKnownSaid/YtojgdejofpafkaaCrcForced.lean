/- The walk of CrcForced. -/
import Derived.Test.YtojgdejofpafkaaCrc7
import Derived.Test.YtojgdejofpafkaaCrcFixLaw
namespace Go.Proofs.Ytojgdejofpafkaa
open Go.RowKit
set_option linter.unusedVariables false

theorem u16_wf {k : Int} (wk : (Lit.int .u16 k).wf = true) : ∃ n : Nat, k = n ∧ n < 65536 := by
  simp only [Lit.wf, Bool.and_eq_true, decide_eq_true_eq] at wk
  obtain ⟨k0, k1⟩ := wk
  have e' : IntKind.max .u16 = 65535 := by decide
  have e0 : IntKind.min .u16 = 0 := by decide
  rw [e'] at k1
  rw [e0] at k0
  exact ⟨k.toNat, by omega, by omega⟩

theorem u32_wf {k : Int} (wk : (Lit.int .u32 k).wf = true) : ∃ b : BitVec 32, k = (b.toNat : Int) := by
  simp only [Lit.wf, Bool.and_eq_true, decide_eq_true_eq] at wk
  obtain ⟨k0, k1⟩ := wk
  have e' : IntKind.max .u32 = 4294967295 := by decide
  have e0 : IntKind.min .u32 = 0 := by decide
  rw [e'] at k1
  rw [e0] at k0
  refine ⟨BitVec.ofNat 32 k.toNat, ?_⟩
  rw [BitVec.toNat_ofNat, Nat.mod_eq_of_lt (by omega)]
  omega

/-- A block of which k cells, from p on, are others. -/
def putA (cur : Array Value) (p : Nat) (f : Nat → UInt8) : Nat → Array Value
  | 0 => cur
  | k + 1 => (putA cur p f k).setIfInBounds (p + k) (B (f k))

theorem putA_size (cur : Array Value) (p : Nat) (f : Nat → UInt8) : ∀ k, (putA cur p f k).size = cur.size
  | 0 => rfl
  | k + 1 => by unfold putA; rw [Array.size_setIfInBounds, putA_size cur p f k]

theorem putA_four (cur : Array Value) (xs : List UInt8) (p : Nat) (f : Nat → UInt8) (h : p + 4 ≤ xs.length) (hc : cur.toList.take xs.length = xs.map B) :
    (putA cur p f 4).toList.take xs.length = (xs.take p ++ ([f 0, f 1, f 2, f 3] ++ xs.drop (p + 4))).map B := by
  rw [← set_four xs p h]
  show List.take xs.length ((((cur.setIfInBounds (p + 0) _).setIfInBounds (p + 1) _).setIfInBounds (p + 2) _).setIfInBounds (p + 3) _).toList = _
  simp only [Array.toList_setIfInBounds, List.take_set, hc, List.map_set, Nat.add_zero]

theorem Sat.freeT {u w : World} {F : HProp} {b n i : Nat} {c : Array Value} {t : TypeId} (h : Sat u w (own b (.cells c t (n, n + 1)) * F)) (hi : i < n) : w.frozen? ⟨b, i, none⟩ = false := by
  simp [World.frozen?, h.get]
  omega

def byteL (x : BitVec 32) (i : Nat) : UInt8 := UInt8.ofNat (x >>> (8 * i)).toNat

theorem byteL_shift (x : BitVec 32) (k : Nat) : (byteL x k).toNat = x.toNat / 2 ^ (8 * k) % 256 := by
  unfold byteL
  rw [UInt8.toNat_ofNat', BitVec.toNat_ushiftRight, Nat.shiftRight_eq_div_pow]

set_option maxRecDepth 100000 in
set_option maxHeartbeats 4000000 in
theorem forced_b (w : World) (v : Value) (xs : List UInt8) (hb : BytesAt w v xs) (n : Nat) (hn : n < 65536) (want other : BitVec 32) :
    Calls Try.prog 5 #[v, .int .u16 n, w32 want, w32 other] w fun e w' => e = .returned (.bool true) ∧ Sat w w' (allro w) := by
  obtain ⟨a, c, rfl, hc1, hc2⟩ := RowAt.len hb
  have hs := sat_allro w
  by_cases hl : 4 ≤ xs.length ∧ xs.length ≤ 3000
  · obtain ⟨hl4, hl3⟩ := hl
    have d0 : decide ((xs.length : Int) < 4) = false := by simp; omega
    have d1 : decide (3000 < (xs.length : Int)) = false := by simp; omega
    obtain ⟨p, hp, hp4⟩ : ∃ p : Nat, n % (xs.length - 3) = p ∧ p + 4 ≤ xs.length := ⟨_, rfl, by have := Nat.mod_lt n (show xs.length - 3 > 0 by omega); omega⟩
    have hw : IntKind.i64.wrap ((xs.length : Int) - 3) = (xs.length : Int) - 3 := IntWalk.i64_in _ (by omega)
    have hr2 : (n : Int) % ((xs.length : Int) - 3) = (p : Int) := by
      have : ((xs.length : Int) - 3) = ((xs.length - 3 : Nat) : Int) := by omega
      rw [this, ← Int.natCast_emod, hp]
    have hr1 : (n : Int).tmod ((xs.length : Int) - 3) = (p : Int) := by rw [Int.tmod_eq_emod_of_nonneg (by omega)]; exact hr2
    have y0 : ¬ ((xs.length : Int) - 3 = 0) := by omega
    have HK := Lib.hid (fun (w' : World) (h' : Sat w w' (allro w)) => hb.below h'.below)
    obtain ⟨b0, o0, c0, hv, _, _, _⟩ := hb.open (by omega)
    cases hv
    clear hp hb
    go_enter Try.func5, Try.ntmps5
    go_wp2_with fail
    refine (cfix_yes w w _ _ xs p want (HK.out _ hs) hs (by omega) hp4 HK.out).mono ?_
    rintro e w1 (⟨_, _, a1, c1, rfl, h1⟩ | ⟨hno, _⟩)
    rotate_left
    · exact absurd ⟨by omega, by omega⟩ hno
    dsimp only
    clear hr1 hr2 y0 hs
    rw [Int.toNat_natCast] at h1
    have hXl := fixB_len xs p want hp4
    have hXt := fixB_take xs p want hp4
    have hXd := fixB_drop xs p want hp4
    have hXs := fixB_sum xs p want
    have hXa := fix_again xs p want hp4
    have hXo := fix_other xs p want
    obtain ⟨g, cur, rfl, q0, q1, q2, q3, q4, h2⟩ := h1.ownB_open (by omega)
    clear h1 q0
    generalize fixB xs p want = X at hXl hXt hXd hXs hXa hXo q1 q4
    rw [hXl] at q1
    have h3 : Sat w w1 (ownB (.slice (some ⟨g, 0, none⟩) xs.length c1) X * allro w) := by
      refine h2.ownB_close hXl.symm (by omega) q2 q3 q4
    clear h2 q3 q4 cur
    have HX := Lib.hid (fun (w' : World) (h' : Sat w w' (ownB (.slice (some ⟨g, 0, none⟩) xs.length c1) X * allro w)) => h'.bytes)
    have HXl := Lib.hid hXl
    have HXt := Lib.hid hXt
    have HXd := Lib.hid hXd
    have HXs := Lib.hid hXs
    have HXa := Lib.hid hXa
    have HXo := Lib.hid hXo
    clear hXl hXt hXd hXs hXa hXo
    have z1 : (p : Int) ≤ c := by omega
    have z2 : (p : Int) ≤ c1 := by omega
    have z3 : (p : Int) + 4 ≤ xs.length := by omega
    have z4 : (p : Int) ≤ xs.length := by omega
    have z5 : (0 : Int) ≤ (p : Int) + 4 := by omega
    have hT : ((p : Int) + 4).toNat = p + 4 := by omega
    have hw4 : IntKind.i64.wrap ((p : Int) + 4) = (p : Int) + 4 := IntWalk.i64_in _ (by omega)
    have F1 := Lib.hid (fun x (hSw : Sat w x (ownB (.slice (some ⟨g, 0, none⟩) xs.length c1) X * allro w)) => by have h := run_string_of (P := Try.prog) (BytesAt.take (HX.out x hSw) p (by rw [HXl.out]; omega)) 22 9 5 Try.underlying22 Try.underlying5 Try.underlying9; rw [HXt.out] at h; exact h)
    have F2 := Lib.hid (fun x (hSw : Sat w x (ownB (.slice (some ⟨g, 0, none⟩) xs.length c1) X * allro w)) => run_string_of (P := Try.prog) (BytesAt.take (HK.out x hSw.right) p (by omega)) 22 9 5 Try.underlying22 Try.underlying5 Try.underlying9)
    have F3 := Lib.hid (fun x (hSw : Sat w x (ownB (.slice (some ⟨g, 0, none⟩) xs.length c1) X * allro w)) => by have h := run_string_of (P := Try.prog) (BytesAt.tail (HX.out x hSw) (p + 4) (by rw [HXl.out]; omega)) 22 9 5 Try.underlying22 Try.underlying5 Try.underlying9; rw [HXd.out, Nat.zero_add] at h; exact h)
    have F4 := Lib.hid (fun x (hSw : Sat w x (ownB (.slice (some ⟨g, 0, none⟩) xs.length c1) X * allro w)) => run_string_of (P := Try.prog) (BytesAt.tail (HK.out x hSw.right) (p + 4) (by omega)) 22 9 5 Try.underlying22 Try.underlying5 Try.underlying9)
    go_wp2_with fail
    refine wp_region_seq [(0, true), (1, true), (2, true), (3, true), (4, true), (5, true), (6, true), (7, true), (8, true), (9, true), (10, true), (12, true), (11, false), (13, true), (14, true), (15, true), (16, true), (17, true), (18, true), (19, true), (20, true), (21, true), (22, true), (23, true), (24, true), (25, true), (26, true), (27, true), (28, true), (29, true), (30, true), (31, true), (32, true), (33, true), (34, true), (35, true), (36, true), (37, true), (38, true)] (fun x => Sat w x (ownB (.slice (some ⟨g, 0, none⟩) xs.length c1) X * allro w)) (by kernel_rfl) (by kernel_rfl) (fun _ _ _ _ _ h => h) ?_
    simp only [pickOps, Array.getD_eq_getD_getElem?, List.getElem?_toArray, List.getElem?_cons_succ, List.getElem?_cons_zero, Option.getD_some]
    have h4 := h3.drew
    repeat (first
      | (refine wpSeq_run (by rfl) h4 (fun K hK => ⟨?_, ?_, ?_⟩); rotate_left; (· (intro wS hSw; go_simp <;> with_reducible rfl)); simp only [Act.put, List.setIfInBounds_toArray, List.set_cons_zero, List.set_cons_succ]; refine hK _ ?_; clear hK K)
      | (refine wpSeq_skip (by rfl) h4 (fun K hK => ?_); simp only [Act.put, List.setIfInBounds_toArray, List.set_cons_zero, List.set_cons_succ]; refine hK _ ?_; clear hK K))
    refine wpSeq_act (by rfl) (fun K hK => ?_)
    go_simp
    refine (sum_any _ _ X (HX.out _ h4)).mono ?_
    rintro e w2 ⟨rfl, rfl⟩
    rw [HXs.out]
    try dsimp only
    try simp only [Act.put, List.setIfInBounds_toArray, List.set_cons_zero, List.set_cons_succ]
    refine hK _ _ (_) ((fun _ h => h)) h4 ?_
    clear hK K
    repeat (first
      | (refine wpSeq_run (by rfl) h4 (fun K hK => ⟨?_, ?_, ?_⟩); rotate_left; (· (intro wS hSw; have f1 := F1.out _ hSw; have f2 := F2.out _ hSw; have f3 := F3.out _ hSw; have f4 := F4.out _ hSw; go_simp <;> with_reducible rfl)); simp only [Act.put, List.setIfInBounds_toArray, List.set_cons_zero, List.set_cons_succ]; refine hK _ ?_; clear hK K)
      | (refine wpSeq_skip (by rfl) h4 (fun K hK => ?_); simp only [Act.put, List.setIfInBounds_toArray, List.set_cons_zero, List.set_cons_succ]; refine hK _ ?_; clear hK K))
    refine wpSeq_end ?_
    generalize (if c1 = p + 4 then _ else _ : Option Addr) = ad1
    generalize (if c = p + 4 then _ else _ : Option Addr) = ad2
    have hz := run_string_of (P := Try.prog) (HX.out _ h4) 22 9 5 Try.underlying22 Try.underlying5 Try.underlying9
    clear F1 F2 F3 F4
    go_wp2_with (refine wpList_toBytes rfl 9 22 5 _ rfl (str X) rfl Try.underlying9 Try.underlying22 Try.underlying5 h4 (by have := HXl.out; show X.length ≤ _; omega) ?_; intro a5 c5 w5 h5)
    clear hz
    have hz : (str X).data.toList = X := rfl
    rw [hz] at h5
    clear hz
    obtain ⟨gy, cy, cury, hv, r1, r2, r3, r4, h6⟩ := Sat.ownT_iff.1 h5
    cases hv
    clear h5
    rw [r3] at h6
    have hput := putA_four cury X p (byteL other) (by rw [HXl.out]; exact hp4) r4
    have hoth := HXo.out (byteL other 0) (byteL other 1) (byteL other 2) (byteL other 3)
    rw [HXt.out, HXd.out] at hput
    have HPUT := Lib.hid hput
    have HOTH := Lib.hid hoth
    have HR3 := Lib.hid r3
    have hc5 : p + 4 ≤ c5 := by have := HXl.out; omega
    have hcx : X.length ≤ c5 := r1
    have h60 : Sat w w5 (own gy (.cells (putA cury p (byteL other) 0) 5 (c5, c5 + 1)) * (ownB (.slice (some ⟨g, 0, none⟩) xs.length c1) X * allro w)) := h6
    clear hput hoth r1 r3 r4 h6
    have hz : (str X).size = xs.length := HXl.out
    rw [HXl.out]
    go_loopw [13] (fun i wr => ∃ k : Nat, k ≤ 4 ∧ i = .int .i64 k ∧ Sat w wr (own gy (.cells (putA cury p (byteL other) k) 5 (c5, c5 + 1)) * (ownB (.slice (some ⟨g, 0, none⟩) xs.length c1) X * allro w))) (fun i _ => 4 - (intOf i).toNat)
    case atStart => exact ⟨0, by omega, rfl, h60⟩
    case round =>
      clear h60 hz
      obtain ⟨k, hk4, rfl, h7⟩ := hrel
      by_cases hlt : k < 4
      · have hset := h7.setCell (p + k) (B (byteL other k))
        have hnum : k = 0 ∨ k = 1 ∨ k = 2 ∨ k = 3 := by omega
        have f0 := h7.freeT (i := p + k) (by omega)
        obtain ⟨v0, c0⟩ : ∃ v0, wr.cell? ⟨gy, p + k, none⟩ = some v0 := ⟨_, by rw [h7.cell, Array.getElem?_eq_getElem (by rw [putA_size, HR3.out]; omega)]⟩
        have hb0 := byteL_shift other k
        clear h7
        have HS := Lib.hid hset
        have HB := Lib.hid hb0
        clear hset hb0 hlt hk4
        rcases hnum with rfl | rfl | rfl | rfl
        · simp only [Nat.add_zero] at c0 f0
          have y6 : (p : Int) + 0 < xs.length := by omega
          have y7 : (0 : Int) ≤ (p : Int) + 0 := by omega
          have y8 : ((p : Int) + 0).toNat = p + 0 := by omega
          go_wp2_with fail
          go_roundw
          case rel =>
            refine ⟨1, by omega, rfl, ?_⟩
            have hX := other.isLt
            have h5 := HS.out
            have e : B (byteL other 0) = .int .u8 ((other.toNat : Int) % 256) := by
              unfold B
              rw [HB.out]
              show Value.int .u8 ((other.toNat / 1 % 256 : Nat) : Int) = _
              congr 1 <;> omega
            rw [← e]
            exact h5
          case measure => simp [intOf]
        · have y6 : (p : Int) + 1 < xs.length := by omega
          have y7 : (0 : Int) ≤ (p : Int) + 1 := by omega
          have y8 : ((p : Int) + 1).toNat = p + 1 := by omega
          go_wp2_with fail
          go_roundw
          case rel =>
            refine ⟨2, by omega, rfl, ?_⟩
            have hX := other.isLt
            have h5 := HS.out
            have e : B (byteL other 1) = .int .u8 ((other.toNat : Int) / 256 % 256) := by
              unfold B
              rw [HB.out]
              show Value.int .u8 ((other.toNat / 256 % 256 : Nat) : Int) = _
              congr 1 <;> omega
            rw [← e]
            exact h5
          case measure => simp [intOf]
        · have y6 : (p : Int) + 2 < xs.length := by omega
          have y7 : (0 : Int) ≤ (p : Int) + 2 := by omega
          have y8 : ((p : Int) + 2).toNat = p + 2 := by omega
          go_wp2_with fail
          go_roundw
          case rel =>
            refine ⟨3, by omega, rfl, ?_⟩
            have hX := other.isLt
            have h5 := HS.out
            have e : B (byteL other 2) = .int .u8 ((other.toNat : Int) / 65536 % 256) := by
              unfold B
              rw [HB.out]
              show Value.int .u8 ((other.toNat / 65536 % 256 : Nat) : Int) = _
              congr 1 <;> omega
            rw [← e]
            exact h5
          case measure => simp [intOf]
        · have y6 : (p : Int) + 3 < xs.length := by omega
          have y7 : (0 : Int) ≤ (p : Int) + 3 := by omega
          have y8 : ((p : Int) + 3).toNat = p + 3 := by omega
          go_wp2_with fail
          go_roundw
          case rel =>
            refine ⟨4, by omega, rfl, ?_⟩
            have hX := other.isLt
            have h5 := HS.out
            have e : B (byteL other 3) = .int .u8 ((other.toNat : Int) / 16777216) := by
              unfold B
              rw [HB.out]
              show Value.int .u8 ((other.toNat / 16777216 % 256 : Nat) : Int) = _
              congr 1 <;> omega
            rw [← e]
            exact h5
          case measure => simp [intOf]
      · have h44 : k = 4 := by omega
        subst h44
        have hYl : (xs.take p ++ ([byteL other 0, byteL other 1, byteL other 2, byteL other 3] ++ xs.drop (p + 4))).length = xs.length := by simp; omega
        generalize xs.take p ++ ([byteL other 0, byteL other 1, byteL other 2, byteL other 3] ++ xs.drop (p + 4)) = Y at HPUT HOTH hYl
        have h8 : Sat w wr (ownT 5 (.slice (some ⟨gy, 0, none⟩) Y.length c5) Y * (ownB (.slice (some ⟨g, 0, none⟩) xs.length c1) X * allro w)) := by
          have hsz := putA_size cury p (byteL other) 4
          rw [HR3.out] at hsz
          refine Sat.ownT_iff.2 ⟨gy, c5, _, rfl, ?_, ?_, hsz, ?_, by rw [hsz]; exact h7⟩
          · rw [hYl, ← HXl.out]; exact hcx
          · exact r2
          · rw [hYl, ← HXl.out]; exact HPUT.out
        rw [hYl] at h8
        have hYs : (((sumB Y).toNat : Int) == (want.toNat : Int)) = decide (Y = X) := by
          have := HOTH.out
          by_cases h : Y = X
          · rw [this.2 h]; simp [h]
          · have h2 : sumB Y ≠ want := fun e => h (this.1 e)
            rw [decide_eq_false h]
            simp only [beq_eq_false_iff_ne, ne_eq]
            intro e
            exact h2 (BitVec.eq_of_toNat_eq (by omega))
        have hYx : ((str Y).toList == (str X).toList) = decide (Y = X) := by
          rw [str_toList, str_toList]
          by_cases h : Y = X
          · simp [h]
          · rw [decide_eq_false h, beq_eq_false_iff_ne]
            exact h
        have HYl := Lib.hid hYl
        clear h7 HPUT HOTH hYl hlt hk4 HR3
        generalize decide (Y = X) = bq at hYs hYx
        have HYS := Lib.hid hYs
        have HYX := Lib.hid hYx
        clear hYs hYx
        go_wp2_with fail
        refine (sum_any _ _ xs (HK.out _ h8.right.right)).mono ?_
        rintro e w8 ⟨rfl, rfl⟩
        dsimp only
        go_wp2_with fail
        refine (cfix_yes w wr _ _ X p (sumB xs) (HX.out _ h8.right) h8 (by rw [HXl.out]; omega) (by rw [HXl.out]; exact hp4) (fun w' h => HX.out _ h.right)).mono ?_
        rintro e w8 (⟨_, _, a8, c8, rfl, h9⟩ | ⟨hno, _⟩)
        rotate_left
        · exact absurd ⟨by omega, by rw [HXl.out]; omega⟩ hno
        rw [Int.toNat_natCast, HXa.out, HXl.out] at h9
        rw [HXl.out]
        dsimp only
        clear h8
        have HY := Lib.hid (fun (x : World) (h : Sat w x (ownB (.slice a8 xs.length c8) xs * (ownT 5 (.slice (some ⟨gy, 0, none⟩) xs.length c5) Y * (ownB (.slice (some ⟨g, 0, none⟩) xs.length c1) X * allro w)))) => h.right.ownT_at)
        go_wp2_with fail
        refine wp_region_seq [(0, true), (2, true), (4, true), (5, true), (6, true), (7, true), (8, true), (1, false), (3, true), (9, true), (10, true), (11, true), (12, true), (13, true), (14, true), (15, true), (16, true), (17, true), (18, true), (19, true), (20, true), (21, false), (22, true), (23, true)] (fun x => Sat w x (ownB (.slice a8 xs.length c8) xs * (ownT 5 (.slice (some ⟨gy, 0, none⟩) xs.length c5) Y * (ownB (.slice (some ⟨g, 0, none⟩) xs.length c1) X * allro w)))) (by kernel_rfl) (by kernel_rfl) (fun _ _ _ _ _ h => h) ?_
        simp only [pickOps, Array.getD_eq_getD_getElem?, List.getElem?_toArray, List.getElem?_cons_succ, List.getElem?_cons_zero, Option.getD_some]
        have h10 := h9.drew
        have F1 := Lib.hid (fun (x : World) (h : Sat w x (ownB (.slice a8 xs.length c8) xs * (ownT 5 (.slice (some ⟨gy, 0, none⟩) xs.length c5) Y * (ownB (.slice (some ⟨g, 0, none⟩) xs.length c1) X * allro w)))) => run_string_of (P := Try.prog) (HY.out _ h) 22 9 5 Try.underlying22 Try.underlying5 Try.underlying9)
        have F2 := Lib.hid (fun (x : World) (h : Sat w x (ownB (.slice a8 xs.length c8) xs * (ownT 5 (.slice (some ⟨gy, 0, none⟩) xs.length c5) Y * (ownB (.slice (some ⟨g, 0, none⟩) xs.length c1) X * allro w)))) => run_string_of (P := Try.prog) (HX.out _ h.right.right) 22 9 5 Try.underlying22 Try.underlying5 Try.underlying9)
        have F3 := Lib.hid (fun (x : World) (h : Sat w x (ownB (.slice a8 xs.length c8) xs * (ownT 5 (.slice (some ⟨gy, 0, none⟩) xs.length c5) Y * (ownB (.slice (some ⟨g, 0, none⟩) xs.length c1) X * allro w)))) => run_string_of (P := Try.prog) h.bytes 22 9 5 Try.underlying22 Try.underlying5 Try.underlying9)
        have F4 := Lib.hid (fun (x : World) (h : Sat w x (ownB (.slice a8 xs.length c8) xs * (ownT 5 (.slice (some ⟨gy, 0, none⟩) xs.length c5) Y * (ownB (.slice (some ⟨g, 0, none⟩) xs.length c1) X * allro w)))) => run_string_of (P := Try.prog) (HK.out _ h.right.right.right) 22 9 5 Try.underlying22 Try.underlying5 Try.underlying9)
        repeat (first
          | (refine wpSeq_run (by rfl) h10 (fun K hK => ⟨?_, ?_, ?_⟩); rotate_left; (· (intro wS hSw; have f1 := F1.out _ hSw; have f2 := F2.out _ hSw; have f3 := F3.out _ hSw; have f4 := F4.out _ hSw; go_simp <;> with_reducible rfl)); simp only [Act.put, List.setIfInBounds_toArray, List.set_cons_zero, List.set_cons_succ]; refine hK _ ?_; clear hK K)
          | (refine wpSeq_skip (by rfl) h10 (fun K hK => ?_); simp only [Act.put, List.setIfInBounds_toArray, List.set_cons_zero, List.set_cons_succ]; refine hK _ ?_; clear hK K))
        refine wpSeq_act (by rfl) (fun K hK => ?_)
        go_simp
        refine (sum_any _ _ Y (HY.out _ h10)).mono ?_
        rintro e w9 ⟨rfl, rfl⟩
        try dsimp only
        try simp only [Act.put, List.setIfInBounds_toArray, List.set_cons_zero, List.set_cons_succ]
        refine hK _ _ (_) ((fun _ h => h)) h10 ?_
        clear hK K
        repeat (first
          | (refine wpSeq_run (by rfl) h10 (fun K hK => ⟨?_, ?_, ?_⟩); rotate_left; (· (intro wS hSw; have f1 := F1.out _ hSw; have f2 := F2.out _ hSw; have f3 := F3.out _ hSw; have f4 := F4.out _ hSw; have f5 := HYS.out; have f6 := HYX.out; go_simp <;> with_reducible rfl)); simp only [Act.put, List.setIfInBounds_toArray, List.set_cons_zero, List.set_cons_succ]; refine hK _ ?_; clear hK K)
          | (refine wpSeq_skip (by rfl) h10 (fun K hK => ?_); simp only [Act.put, List.setIfInBounds_toArray, List.set_cons_zero, List.set_cons_succ]; refine hK _ ?_; clear hK K))
        refine wpSeq_act (by rfl) (fun K hK => ?_)
        go_simp
        refine (works_any w _ _ h10).mono ?_
        rintro e w9 ⟨rfl, h11⟩
        try dsimp only
        try simp only [Act.put, List.setIfInBounds_toArray, List.set_cons_zero, List.set_cons_succ]
        refine hK _ _ (_) ((fun _ h => h)) h11 ?_
        clear hK K
        repeat (first
          | (refine wpSeq_run (by rfl) h11 (fun K hK => ⟨?_, ?_, ?_⟩); rotate_left; (· (intro wS hSw; go_simp <;> with_reducible rfl)); simp only [Act.put, List.setIfInBounds_toArray, List.set_cons_zero, List.set_cons_succ]; refine hK _ ?_; clear hK K)
          | (refine wpSeq_skip (by rfl) h11 (fun K hK => ?_); simp only [Act.put, List.setIfInBounds_toArray, List.set_cons_zero, List.set_cons_succ]; refine hK _ ?_; clear hK K))
        refine wpSeq_end ?_
        go_wp2
        go_ret
        exact ⟨rfl, h11.right.right.right⟩
  · have d0 : decide ((xs.length : Int) < 4) = true ∨ (decide ((xs.length : Int) < 4) = false ∧ decide (3000 < (xs.length : Int)) = true) := by simp; omega
    rcases d0 with d0 | ⟨d0, d1⟩
    all_goals
      go_enter Try.func5, Try.ntmps5
      go_wp2_with fail
      refine (works_any w w _ hs).mono ?_
      rintro e w1 ⟨rfl, h1⟩
      dsimp only
      go_wp2
      go_ret
      exact ⟨rfl, h1⟩

theorem forced_walk (w : World) (v : Value) (xs : List UInt8) (hb : BytesAt w v xs) (n : Int) (wn : (Lit.int .u16 n).wf = true) (want : Int) (ww : (Lit.int .u32 want).wf = true) (other : Int) (wo : (Lit.int .u32 other).wf = true) :
    Calls Try.prog 5 #[v, .int .u16 n, .int .u32 want, .int .u32 other] w fun e w' => e = .returned (.bool true) ∧ Sat w w' (allro w) := by
  obtain ⟨n, rfl, hn⟩ := u16_wf wn
  obtain ⟨want, rfl⟩ := u32_wf ww
  obtain ⟨other, rfl⟩ := u32_wf wo
  exact forced_b w v xs hb n hn want other
end Go.Proofs.Ytojgdejofpafkaa
