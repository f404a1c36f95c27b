/- WalKnown: the walk. -/
import Derived.Test.YtlfmkiclaijokaaGreatDoorMk38
import Derived.Test.YtlfmkiclaijokaaGreatDoorMk39
import Derived.Lib.SmallJoins
import Derived.Test.YtlfmkiclaijokaaGreatDoorMk24
import Derived.Test.YtlfmkiclaijokaaGreatDoorMk25
import Derived.Laws.OwnMore
namespace Go.Proofs.YtlfmkiclaijokaaGreatDoor
open Go.RowKit
set_option linter.unusedVariables false

theorem k_off : openW (crashD (newD 9)) = (40, none, crashD (newD 9)) := by kernel_rfl

theorem byte1_at {u w : World} {F : HProp} {x : UInt8} {g : Nat} {t : TypeId} {fr : Nat × Nat} (h : Sat u w (own g (.cells #[.int .u8 x.toNat] t fr) * F)) : BytesAt w (.slice (some ⟨g, 0, none⟩) 1 1) [x] := by
  have h := h.get
  refine .inr ⟨⟨g, 0, none⟩, 1, rfl, Nat.le_refl _, by decide, fun j v hj => ?_⟩
  rw [addr_add]
  simp only [World.cell?, h]
  match j, hj with
  | 0, hj => exact hj
  | j + 1, hj => simp at hj

def gB0 : Bs := frameB 75 0 [97]
def gB1 : Bs := frameB 75 4611686018427387905 [97]
def gB3 : Bs := frameB 75 3 [97]

def okBad (b : Bs) : Bool := decide (b.length ≤ 1000) && okO (appendD (newD 100) ckN b).2 && ((openW (appendD (newD 100) ckN b).2).1 == 50) && (openW (appendD (newD 100) ckN b).2).2.1.isNone

theorem bad0 : okBad [] = true := by kernel_rfl
theorem bad1 : okBad [75] = true := by kernel_rfl
theorem bad2 : okBad (frameB 75 0 [97]) = true := by kernel_rfl
theorem bad3 : okBad (frameB 75 4611686018427387905 [97]) = true := by kernel_rfl
theorem bad4 : okBad (frameB 75 3 [97] ++ [0]) = true := by kernel_rfl
theorem bad5 : okBad ((frameB 75 3 [97]).drop 1) = true := by kernel_rfl

theorem RowAt.under {w w' : World} {v : Value} {m : Nat} {xs : List Value} (h : RowAt w v m xs) (hb : Below w.heap.size w w') : RowAt w' v m xs := by
  rcases h with h | ⟨a, c, h1, h2, h3, h4⟩
  · exact .inl h
  · exact .inr ⟨a, c, h1, h2, h3, fun j y hy => (hb.cell (World.block_lt_of_cell? w _ (h4 j y hy))).trans (h4 j y hy)⟩

theorem Sat.thru {u w w' : World} {F : HProp} (h : Sat u w F) (h' : Sat w w' (allro w)) : Sat u w' F :=
  h.ext h'.os h'.tape h'.output fun k hk => by
    obtain ⟨_, _, _, r, rfl, hw⟩ := h'
    have e : w.heap[k]? = some w.heap[k] := by simp
    rw [e]
    exact hw k false _ (by simp [e])

/-- Slices of bytes in a row, each of them bad. -/
def BadRow (w : World) (g n : Nat) : Prop := ∀ j < n, ∃ a c b, w.cell? ⟨g, j, none⟩ = some (.slice a b.length c) ∧ BytesAt w (.slice a b.length c) b ∧ okBad b = true

theorem BadRow.under {w w' : World} {g n : Nat} (h : BadRow w g n) (hb : Below w.heap.size w w') : BadRow w' g n := fun j hj => by
  obtain ⟨a, c, b, h1, h2, h3⟩ := h j hj
  exact ⟨a, c, b, (hb.cell (World.block_lt_of_cell? w _ h1)).trans h1, RowAt.under h2 hb, h3⟩

theorem conv_at (w : World) (C : Array Value) (n c g : Nat) (hg : g = w.heap.size) :
    (convert 34 34 (.slice (some ⟨g, 0, none⟩) n c)).run Tryz.prog (w.alloc (.cells C 5)) = .ok (.slice (some ⟨g, 0, none⟩) n c) (w.alloc (.cells C 5 (C.size, C.size + 1))) := by
  subst hg
  exact Lib.run_convert_bytes_const w 34 5 C n c Tryz.underlying34 Tryz.underlying5

theorem made_bytes (n : Nat) : madeCells #[.int .u8 0] n = ((List.replicate n (0 : UInt8)).map B).toArray := by
  apply Array.ext'
  rw [toList_madeCells_one, List.map_replicate]
  rfl

theorem mkBig (w : World) : ∃ Z : Bs, Z.length = 8000001 ∧ (Instr.makeSlice 34 (.int .i64 8000001) (.int .i64 8000001)).run Tryz.prog w = .ok (.slice (some ⟨w.heap.size, 0, none⟩) 8000001 8000001) (w.alloc (.cells (Z.map B).toArray 5)) := by
  obtain ⟨i0, hi, hz0, hz1, hz2⟩ := info_parts info_u8
  have h := run_make (P := Tryz.prog) w 34 5 i0 (.int .u8 0) Tryz.underlying34 hi hz0 .i64 .i64 8000001 8000001 (by decide) (by decide) (by rw [hz2]; decide) (by decide)
  have e : (8000001 : Int).toNat = 8000001 := rfl
  rw [e, hz1, Nat.mul_one, show (Value.int .u8 0).cells = #[.int .u8 0] from rfl, made_bytes] at h
  exact ⟨List.replicate 8000001 0, List.length_replicate, h⟩

theorem lappend_n (u w : World) (F : HProp) (l p : Nat) (W : WalP) (d : DiskP) (b : Bs) (n : Nat) (ab : Option Addr) (cb : Nat) (R : Int × WalP × DiskP) (hn : b.length = n) (hR : appendW d W b = R) (hbl : n ≤ 100000000) (hb : ∀ w', Sat u w' F → BytesAt w' (.slice ab n cb) b) (hmany : d.files.length < 1000000) (hrm : W.recs.length < 1000000) (hsz : W.size + 17 + n ≤ 1000000000) (hs : Sat u w (isL l p W * (isD p d * F))) :
    Calls Tryz.prog 12 #[.pointer (some ⟨l, 0, none⟩), .slice ab n cb] w fun e w' => e = .returned (.int .i64 R.1) ∧ Sat u w' (isL l p R.2.1 * (isD p R.2.2 * F)) := by
  subst hn hR
  exact lappend_any u w F l p W d b ab cb hbl hb hmany hrm hsz hs

theorem lcheck_n (u w : World) (F : HProp) (l p : Nat) (W : WalP) (d : DiskP) (b : Bs) (n : Nat) (ab : Option Addr) (cb : Nat) (R : Int × WalP × DiskP) (hn : b.length = n) (hR : checkW d W b = R) (hbl : n ≤ 100000000) (hb : ∀ w', Sat u w' F → BytesAt w' (.slice ab n cb) b) (hmany : d.files.length < 999990) (hg99 : W.gen + 1 < 100) (hs : Sat u w (isL l p W * (isD p d * F))) :
    Calls Tryz.prog 11 #[.pointer (some ⟨l, 0, none⟩), .slice ab n cb] w fun e w' => e = .returned (.int .i64 R.1) ∧ Sat u w' (isL l p R.2.1 * (isD p R.2.2 * F)) := by
  subst hn hR
  exact lcheck_any u w F l p W d b ab cb hbl hb hmany hg99 hs

theorem lcommit_n (u w : World) (F : HProp) (l p : Nat) (W : WalP) (d : DiskP) (R : Int × WalP × DiskP) (hR : commitW d W = R) (hs : Sat u w (isL l p W * (isD p d * F))) :
    Calls Tryz.prog 10 #[.pointer (some ⟨l, 0, none⟩)] w fun e w' => e = .returned (.int .i64 R.1) ∧ Sat u w' (isL l p R.2.1 * (isD p R.2.2 * F)) := by
  subst hR
  exact lcommit_any u w F l p W d hs

/-- A part of a block of bytes. -/
theorem part_at {u w : World} {F : HProp} {Z : Bs} {g : Nat} {t : TypeId} {fr : Nat × Nat} (h : Sat u w (own g (.cells (Z.map B).toArray t fr) * F)) (o n c : Nat) (h1 : o + n ≤ Z.length) (h2 : n ≤ c) (h3 : c ≤ 9223372036854775807) :
    BytesAt w (.slice (some ⟨g, o, none⟩) ((Z.drop o).take n).length c) ((Z.drop o).take n) := by
  have hl : ((Z.drop o).take n).length = n := by rw [List.length_take, List.length_drop]; omega
  have hg := h.get
  refine .inr ⟨⟨g, o, none⟩, c, rfl, by rw [hl]; exact h2, h3, fun j v hj => ?_⟩
  rw [addr_add_at]
  simp only [World.cell?, hg]
  rw [List.getElem?_map, Option.map_eq_some_iff] at hj
  obtain ⟨x, hx, rfl⟩ := hj
  have hjn : j < n := by
    obtain ⟨hj, _⟩ := List.getElem?_eq_some_iff.1 hx
    omega
  rw [List.getElem?_take_of_lt hjn, List.getElem?_drop] at hx
  simp [hx]

section
variable {u w : World} {F : HProp}

set_option maxRecDepth 100000 in
set_option maxHeartbeats 16000000 in
theorem wknown_any (hs : Sat u w F) : Calls Tryz.prog 4 #[] w fun e w' => e = .returned (.bool true) ∧ Sat u w' F := by
  go_enter Tryz.func4, Tryz.ntmps4
  go_wp2_with fail
  refine lopen_nil.mono ?_
  rintro e w1 ⟨rfl, rfl⟩
  dsimp only
  go_wp2_with fail
  refine (dnew_any u w F 9 (by decide) (by decide) hs).mono ?_
  rintro e w1 ⟨p, rfl, h1⟩
  dsimp only
  go_wp2_with fail
  refine (dcrash_any u w1 F p _ h1).mono ?_
  rintro e w2 ⟨rfl, h2⟩
  dsimp only
  clear h1 hs
  go_wp2_with fail
  refine (lopen_any u w2 F p _ (fun f hf => by cases hf) (fun s g h => (by have e : loadP (crashD (newD 9)) = some ([], 0) := (by kernel_rfl); rw [e] at h; cases h; decide)) h2).mono ?_
  intro e w3 h3
  rw [k_off] at h3
  obtain ⟨rfl, h3⟩ := h3
  dsimp only
  have h4 := h3.right
  clear h2 h3
  go_wp2_with fail
  refine lrecord_nil.mono ?_
  rintro e w4 ⟨rfl, rfl⟩
  dsimp only
  go_wp2_with fail
  refine lstate_nil.mono ?_
  rintro e w4 ⟨rfl, rfl⟩
  dsimp only
  go_wp2_with fail
  refine lgeneration_nil.mono ?_
  rintro e w4 ⟨rfl, rfl⟩
  dsimp only
  go_wp2_with fail
  refine lcount_nil.mono ?_
  rintro e w4 ⟨rfl, rfl⟩
  dsimp only
  go_wp2_with fail
  refine lsure_nil.mono ?_
  rintro e w4 ⟨rfl, rfl⟩
  dsimp only
  go_wp2_with fail
  refine lsize_nil.mono ?_
  rintro e w4 ⟨rfl, rfl⟩
  dsimp only
  go_wp2_with fail
  refine lbroken_nil.mono ?_
  rintro e w4 ⟨rfl, rfl⟩
  dsimp only
  go_wp2_with fail
  refine lappend_nil.mono ?_
  rintro e w4 ⟨rfl, rfl⟩
  dsimp only
  go_wp2_with fail
  refine lcommit_nil.mono ?_
  rintro e w4 ⟨rfl, rfl⟩
  dsimp only
  go_wp2_with fail
  refine (lcheck_nil h4).mono ?_
  rintro e w4 ⟨rfl, h5⟩
  dsimp only
  clear h4
  have h6 : Sat u _ (own w4.heap.size (.cells #[.int .u8 (75 : UInt8).toNat] 5 (0, 0)) * F) := h5.alloc (.cells #[.int .u8 75] 5)
  clear h5
  generalize hq : w4.heap.size = q at h6
  have HQ := Lib.hid hq
  go_wp2_with fail
  refine (rstate_any u _ _ 0 [97] (by decide) (by decide) h6).mono ?_
  rintro e w5 ⟨a0, c0, rfl, h7⟩
  have hl0 : (frameB 75 0 [97]).length = 18 := frameB_length _ _ _
  rw [hl0] at h7 ⊢
  dsimp only
  clear h6 HQ hq hl0
  go_wp2_with fail
  refine (rstate_any u _ _ 4611686018427387905 [97] (by decide) (by decide) h7).mono ?_
  rintro e w6 ⟨a1, c1, rfl, h8⟩
  have hl0 : (frameB 75 4611686018427387905 [97]).length = 18 := frameB_length _ _ _
  rw [hl0] at h8 ⊢
  dsimp only
  clear h7 hl0
  go_wp2_with fail
  refine (rstate_any u _ _ 3 [97] (by decide) (by decide) h8).mono ?_
  rintro e w7 ⟨a2, c2, rfl, h9⟩
  have hl0 : (frameB 75 3 [97]).length = 18 := frameB_length _ _ _
  rw [hl0] at h9 ⊢
  dsimp only
  clear h8
  have h10 : Sat u _ (own w7.heap.size (.cells #[.int .u8 (0 : UInt8).toNat] 5 (0, 0)) * _) := h9.alloc (.cells #[.int .u8 0] 5)
  have hz := byte1_at h10
  obtain ⟨i0, hi, hz0, hz1, hz2⟩ := info_parts info_u8
  have h11 := h10.right
  have e11 : ownB (.slice a2 18 c2) (frameB 75 3 [97]) = ownRow 5 1 (.slice a2 18 c2) 18 ((frameB 75 3 [97]).map B) := by unfold ownB; rw [hl0]
  rw [e11] at h11
  clear h9 hl0 e11
  go_wp2_with (at_builtin; refine wpList_append_sl rfl _ _ 34 rfl i0 (.int .u8 0) Tryz.underlying34 hi hz0 hz1 hz2 rfl (by decide) rfl rfl h11 (x := .slice (some ⟨w7.heap.size, 0, none⟩) 1 1) (m := 1) (news := [.int .u8 0]) hz rfl (by intro q hq; cases hq with | head => rfl | tail _ hq => cases hq) (by decide) ?_; intro a3 c3 w8 h12 hx; clear hx)
  refine (rstate_any u _ _ 3 [97] (by decide) (by decide) h12).mono ?_
  rintro e w9 ⟨a4, c4, rfl, h13⟩
  have hl0 : (frameB 75 3 [97]).length = 18 := frameB_length _ _ _
  rw [hl0] at h13 ⊢
  dsimp only
  clear h10 h11 h12 hz hi hz0 hz1 hz2
  have h13' := h13
  have e13 : ownB (.slice a4 18 c4) (frameB 75 3 [97]) = ownRow 5 1 (.slice a4 18 c4) 18 ((frameB 75 3 [97]).map B) := by unfold ownB; rw [hl0]
  rw [e13] at h13'
  clear e13
  obtain ⟨g4, rfl, hc1, hc2⟩ : ∃ g, a4 = some ⟨g, 0, none⟩ ∧ 18 ≤ c4 ∧ c4 ≤ 9223372036854775807 := by
    rcases Sat.row_iff.1 h13' with ⟨hv, _⟩ | ⟨g, cap, cur, hv, x1, x2, _⟩
    · cases hv
    · cases hv
      exact ⟨g, rfl, x1, x2⟩
  clear h13'
  have hcne : c4 ≠ 1 := by omega
  have h14 : Sat u _ (own w9.heap.size (.cells #[.slice none 0 0, .slice (some ⟨q, 0, none⟩) 1 1, .slice a0 18 c0, .slice a1 18 c1, .slice a3 19 c3, .slice (some ⟨g4, 1, none⟩) 17 (c4 - 1)] 34 (0, 0)) * _) := h13.alloc (.cells #[.slice none 0 0, .slice (some ⟨q, 0, none⟩) 1 1, .slice a0 18 c0, .slice a1 18 c1, .slice a3 19 c3, .slice (some ⟨g4, 1, none⟩) 17 (c4 - 1)] 34)
  clear h13
  go_wp2_with fail
  generalize (w9.alloc (.cells #[.slice none 0 0, .slice (some ⟨q, 0, none⟩) 1 1, .slice a0 18 c0, .slice a1 18 c1, .slice a3 19 c3, .slice (some ⟨g4, 1, none⟩) 17 (c4 - 1)] 34)) = wL at h14 ⊢
  generalize w9.heap.size = gL at h14 ⊢
  have hbad : BadRow wL gL 6 := by
    have z0 := h14.cell 0
    have z1 := h14.cell 1
    have z2 := h14.cell 2
    have z3 := h14.cell 3
    have z4 := h14.cell 4
    have z5 := h14.cell 5
    have b5 := Sat.bytes h14.right
    have b4 := Sat.row_at h14.right.right
    have b3 := Sat.bytes h14.right.right.right
    have b2 := Sat.bytes h14.right.right.right.right
    have b1 := byte1_at (x := 75) h14.right.right.right.right.right
    have hl1 : (frameB 75 0 [97]).length = 18 := frameB_length _ _ _
    have hl2 : (frameB 75 4611686018427387905 [97]).length = 18 := frameB_length _ _ _
    intro j hj
    match j, hj with
    | 0, _ => exact ⟨none, 0, [], z0, .inl ⟨rfl, rfl, rfl⟩, bad0⟩
    | 1, _ => exact ⟨_, 1, [75], z1, b1, bad1⟩
    | 2, _ => exact ⟨a0, c0, frameB 75 0 [97], by rw [hl1]; exact z2, by rw [hl1]; exact b2, bad2⟩
    | 3, _ => exact ⟨a1, c1, frameB 75 4611686018427387905 [97], by rw [hl2]; exact z3, by rw [hl2]; exact b3, bad3⟩
    | 4, _ => exact ⟨a3, c3, frameB 75 3 [97] ++ [0], by rw [List.length_append, hl0]; exact z4, by unfold BytesAt; rw [List.length_append, hl0, List.map_append]; exact b4, bad4⟩
    | 5, _ =>
      have b6 := BytesAt.lasts (a := some ⟨g4, 0, none⟩) (n := 18) (c := c4) b5 1 (by rw [hl0]; decide)
      have hl3 : ((frameB 75 3 [97]).drop 1).length = 17 := by rw [List.length_drop, hl0]
      rw [if_neg hcne, hl0] at b6
      exact ⟨_, _, (frameB 75 3 [97]).drop 1, by rw [hl3]; exact z5, by rw [hl3]; exact b6, bad5⟩
  have h15 := h14.right.right.right.right.right.right
  clear h14 hl0
  have HBAD := Lib.hid hbad
  clear hbad hc1 hc2 hcne
  have HL := Lib.hid h15
  clear h15
  go_loopw [105] (fun t105 wr => ∃ j : Nat, j ≤ 6 ∧ t105 = .int .i64 j ∧ Sat wL wr (allro wL)) (fun t105 _ => 6 - (intOf t105).toNat)
  case atStart => exact ⟨0, by decide, rfl, sat_allro wL⟩
  case round =>
    obtain ⟨j, hj, rfl, h16⟩ := hrel
    by_cases hlt : j < 6
    · obtain ⟨a, c, b, hc0, hb, hok⟩ := HBAD.out j hlt
      have hc := (h16.below.cell (World.block_lt_of_cell? wL _ hc0)).trans hc0
      have y1 : (j : Int) < 6 := by omega
      have HB := Lib.hid hb
      have HOK := Lib.hid hok
      have HLT := Lib.hid hlt
      clear hb hok hlt hj hc0
      go_wp2_with fail
      refine (dnew_any wL wr _ 100 (by decide) (by decide) h16).mono ?_
      rintro e w16 ⟨p1, rfl, h17⟩
      dsimp only
      have hok := HOK.out
      unfold okBad at hok
      simp only [Bool.and_eq_true, decide_eq_true_eq, beq_iff_eq, Option.isNone_iff_eq_none] at hok
      obtain ⟨⟨⟨hbl, hoko⟩, he50⟩, hnone⟩ := hok
      obtain ⟨_, hnl, hg9⟩ := okO_facts hoko
      have hb16 : ∀ w', Sat wL w' (allro wL) → BytesAt w' (.slice a b.length c) b := fun w' h => RowAt.under HB.out h.below
      go_wp2_with fail
      refine (dappend_any wL w16 _ p1 _ ckN b a c (by decide) (by omega) hb16 (by decide) h17).mono ?_
      rintro e w17 ⟨rfl, h18⟩
      dsimp only
      go_wp2_with fail
      refine (lopen_any wL w17 _ p1 _ hnl hg9 h18).mono ?_
      intro e w18 h19
      unfold Opened at h19
      rw [hnone, he50] at h19
      obtain ⟨rfl, h20⟩ := h19
      dsimp only
      clear h16 h17 h18 hnl hg9 hbl hoko he50 hnone hb16
      go_wp2_with fail
      go_roundw
      case rel => exact ⟨j + 1, HLT.out, by go_num, h20.right⟩
      case measure => have hl := HLT.out; simp [intOf]; omega
    · have e : j = 6 := by omega
      subst e
      have h17 := HL.out.thru h16
      clear h16 HL HBAD hj hlt
      go_wp2_with fail
      refine (dnew_any u wr F 8388608 (by decide) (by decide) h17).mono ?_
      rintro e w20 ⟨p2, rfl, h18⟩
      dsimp only
      go_wp2_with fail
      refine (lopen_any u w20 F p2 _ (fun f hf => by cases hf) (fun s g h => (by have e : loadP (newD 8388608) = some ([], 0) := (by kernel_rfl); rw [e] at h; cases h; decide)) h18).mono ?_
      intro e w21 h19
      rw [k_open] at h19
      obtain ⟨l, rfl, h20⟩ := h19
      dsimp only at h20 ⊢
      clear h17 h18
      obtain ⟨Z, hZl, hmk⟩ := mkBig w21
      have h21 := h20.alloc (.cells (Z.map B).toArray 5)
      have HZ := Lib.hid hZl
      clear h20 hZl
      go_wp2_with fail
      clear hmk
      generalize w21.alloc (.cells (Z.map B).toArray 5) = wM at h21 ⊢
      generalize w21.heap.size = gM at h21 ⊢
      have hpart : ∀ (o n c : Nat), o + n ≤ 8000001 → n ≤ c → c ≤ 9223372036854775807 → ∃ b : Bs, b.length = n ∧ ∀ w', Sat u w' (own gM (.cells (Z.map B).toArray 5 (0, 0)) * F) → BytesAt w' (.slice (some ⟨gM, o, none⟩) n c) b := by
        intro o n c h1 h2 h3
        have hl : ((Z.drop o).take n).length = n := by rw [List.length_take, List.length_drop, HZ.out]; omega
        refine ⟨(Z.drop o).take n, hl, fun w' h' => ?_⟩
        have := part_at h' o n c (by rw [HZ.out]; exact h1) h2 h3
        rw [hl] at this
        exact this
      obtain ⟨b1, hl1, ht1⟩ := hpart 0 1048577 8000001 (by decide) (by decide) (by decide)
      obtain ⟨b2, hl2, ht2⟩ := hpart 0 1048576 8000001 (by decide) (by decide) (by decide)
      obtain ⟨b3, hl3, ht3⟩ := hpart 0 8000001 8000001 (by decide) (by decide) (by decide)
      obtain ⟨b4, hl4, ht4⟩ := hpart 1 8000000 8000000 (by decide) (by decide) (by decide)
      have H1 := Lib.hid hl1
      have H2 := Lib.hid hl2
      have H3 := Lib.hid hl3
      have H4 := Lib.hid hl4
      have HF := Lib.hid (frameB_length 82 1 b2)
      generalize hgF : own gM (.cells (Z.map B).toArray 5 (0, 0)) * F = G at ht1 ht2 ht3 ht4
      have h22 : Sat u wM (isL l p2 wE * (isD p2 k0D * G)) := h21.eq (by rw [← hgF]; ac_rfl)
      have HG := Lib.hid hgF
      clear hl1 hl2 hl3 hl4 hpart hgF h21
      refine (lappend_n u wM G l p2 wE k0D b1 1048577 _ 8000001 _ H1.out (k_long k0D wE b1 rfl (by rw [H1.out]; decide)) (by decide) ht1 (by decide) (by decide) (by decide) h22).mono ?_
      rintro e w22 ⟨rfl, h23⟩
      dsimp only at h23 ⊢
      clear h22
      go_wp2_with fail
      refine (lappend_n u w22 G l p2 wE k0D b2 1048576 _ 8000001 _ H2.out (k_append b2 H2.out) (by decide) ht2 (by decide) (by decide) (by decide) h23).mono ?_
      rintro e w23 ⟨rfl, h24⟩
      dsimp only at h24 ⊢
      clear h23
      go_wp2_with fail
      refine (lcheck_n u w23 G l p2 (k1W b2) (k1D (frameB 82 1 b2)) [] 0 none 0 _ rfl (k_two _ [] b2 (by decide)) (by decide) (fun w' h' => .inl ⟨rfl, rfl, rfl⟩) (by show 1 < 999990; decide) (by show 0 + 1 < 100; decide) h24).mono ?_
      rintro e w24 ⟨rfl, h25⟩
      dsimp only at h25 ⊢
      clear h24
      go_wp2_with fail
      refine (lcommit_n u w24 G l p2 (k1W b2) (k1D (frameB 82 1 b2)) _ (k_commit _ _) h25).mono ?_
      rintro e w25 ⟨rfl, h26⟩
      dsimp only at h26 ⊢
      clear h25
      go_wp2_with fail
      refine (lcheck_n u w25 G l p2 (k2W b2) (k2D (frameB 82 1 b2)) b3 8000001 _ 8000001 _ H3.out (k_three _ _ b3 rfl (by rw [H3.out]; decide)) (by decide) ht3 (by show 1 < 999990; decide) (by show 0 + 1 < 100; decide) h26).mono ?_
      rintro e w26 ⟨rfl, h27⟩
      dsimp only at h27 ⊢
      clear h26
      go_wp2_with fail
      refine (lcheck_n u w26 G l p2 (k2W b2) (k2D (frameB 82 1 b2)) b4 8000000 _ 8000000 _ H4.out (k_full _ b2 b4 (by rw [HF.out, H2.out]) H4.out) (by decide) ht4 (by show 1 < 999990; decide) (by show 0 + 1 < 100; decide) h27).mono ?_
      rintro e w27 ⟨rfl, h28⟩
      dsimp only at h28 ⊢
      clear h27
      go_wp2_with fail
      refine (lcheck_n u w27 G l p2 (k2W b2) (k2D (frameB 82 1 b2)) [] 0 none 0 _ rfl (k_nil _ b2 (by rw [HF.out, H2.out])) (by decide) (fun w' h' => .inl ⟨rfl, rfl, rfl⟩) (by show 1 < 999990; decide) (by show 0 + 1 < 100; decide) h28).mono ?_
      rintro e w28 ⟨rfl, h29⟩
      dsimp only at h29 ⊢
      clear h28
      go_wp2_with fail
      obtain ⟨dE, hlast⟩ := k_last b4 H4.out
      refine (lcheck_n u w28 G l p2 k4W (k4D (frameB 75 1 [])) b4 8000000 _ 8000000 _ H4.out hlast (by decide) ht4 (by show 1 < 999990; decide) (by show 1 + 1 < 100; decide) h29).mono ?_
      rintro e w29 ⟨rfl, h30⟩
      dsimp only at h30 ⊢
      clear h29 hlast
      go_wp2_with fail
      refine (lstate_any u w29 _ l p2 _ h30).mono ?_
      rintro e w30 ⟨sa, sc, rfl, h31⟩
      dsimp only at h31 ⊢
      rw [H4.out]
      have h32 : Sat u w30 F := by
        have h := h31.right.right.right
        rw [← HG.out] at h
        exact h.right
      clear h30 h31 ht1 ht2 ht3 ht4
      go_wp2_with fail
      refine (rrecord_any u w30 F 1 [97] (by decide) (by decide) h32).mono ?_
      rintro e w31 ⟨a5, c5, rfl, h33⟩
      have hl0 : (frameB 82 1 [97]).length = 18 := frameB_length _ _ _
      rw [hl0] at h33 ⊢
      have e33 : ownB (.slice a5 18 c5) (frameB 82 1 [97]) = ownRow 5 1 (.slice a5 18 c5) 18 ((frameB 82 1 [97]).map B) := by unfold ownB; rw [hl0]
      rw [e33] at h33
      dsimp only
      clear h32 hl0 e33
      go_wp2_with fail
      refine (rrecord_any u w31 _ 2 [98] (by decide) (by decide) h33).mono ?_
      rintro e w32 ⟨a6, c6, rfl, h34⟩
      have hl0 : (frameB 82 2 [98]).length = 18 := frameB_length _ _ _
      rw [hl0] at h34 ⊢
      dsimp only
      have hm : RowAt w32 (.slice a6 18 c6) 18 ((frameB 82 2 [98]).map B) := by
        have h := Sat.bytes h34
        unfold BytesAt at h
        rw [hl0] at h
        exact h
      have h35 := h34.right
      clear h33 h34 hl0
      obtain ⟨i1, hi, hz0, hz1, hz2⟩ := info_parts info_u8
      go_wp2_with (at_builtin; refine wpList_append_sl rfl _ _ 34 rfl i1 (.int .u8 0) Tryz.underlying34 hi hz0 hz1 hz2 rfl (by decide) rfl rfl h35 (x := .slice a6 18 c6) (m := 18) (news := (frameB 82 2 [98]).map B) hm (by rw [List.length_map]; exact frameB_length _ _ _) (B_one _) (by decide) ?_; intro a7 c7 w33 h36 hx; clear hx)
      clear h35 hm hi hz0 hz1 hz2
      refine (rrecord_any u _ _ 4 [99] (by decide) (by decide) h36).mono ?_
      rintro e w34 ⟨a8, c8, rfl, h37⟩
      have hl0 : (frameB 82 4 [99]).length = 18 := frameB_length _ _ _
      rw [hl0] at h37 ⊢
      dsimp only
      clear h36
      have kc := conv_at
      go_wp2_with fail
      have hget := pushA_get (objsK w34.heap.size a7 c7 a8 c8) w34
      have h38 := Sat.pushA (objsK w34.heap.size a7 c7 a8 c8) h37
      clear kc h37 hl0
      show Calls _ _ #[.int .i64 1000, .slice (some ⟨w34.heap.size + 11, 0, none⟩) 28 28] (pushA w34 (objsK w34.heap.size a7 c7 a8 c8)) _
      generalize pushA w34 (objsK w34.heap.size a7 c7 a8 c8) = wK at hget h38 ⊢
      generalize w34.heap.size = n at hget h38 ⊢
      have hcalls : CallsAt wK (some ⟨n + 11, 0, none⟩) 28 28 (callsK n a7 c7 a8 c8) := by
        have h8 := Sat.bytes h38
        have h7 := Sat.row_at h38.right
        have l7 : (frameB 82 1 [97] ++ frameB 82 2 [98]).length = 36 := by rw [List.length_append, frameB_length, frameB_length]; rfl
        refine callsK_at (fun k hk => hget k hk) ?_ h8
        unfold BytesAt
        rw [l7, List.map_append]
        exact h7
      have h39 : Sat u wK F := h38.right.right
      have HC := Lib.hid hcalls
      have HK := Lib.hid h39
      clear hget h38 hcalls h39
      refine (wplays_any wK wK (allro wK) (some ⟨n + 11, 0, none⟩) 28 28 (callsK n a7 c7 a8 c8) 1000 (fun w' h => HC.out.below h.below) (by decide) (by decide) (plays1000 n a7 c7 a8 c8).1 (plays1000 n a7 c7 a8 c8).2 (sat_allro wK)).mono ?_
      rintro e w35 ⟨rfl, h40⟩
      dsimp only
      go_wp2_with fail
      refine (wplays_any wK w35 (allro wK) (some ⟨n + 11, 0, none⟩) 28 28 (callsK n a7 c7 a8 c8) 90 (fun w' h => HC.out.below h.below) (by decide) (by decide) (plays90 n a7 c7 a8 c8).1 (plays90 n a7 c7 a8 c8).2 h40).mono ?_
      rintro e w36 ⟨rfl, h41⟩
      dsimp only
      clear h40
      go_wp2_with fail
      refine (wplays_any wK w36 (allro wK) (some ⟨n + 11, 0, none⟩) 28 28 (callsK n a7 c7 a8 c8) 0 (fun w' h => HC.out.below h.below) (by decide) (by decide) (plays0 n a7 c7 a8 c8).1 (plays0 n a7 c7 a8 c8).2 h41).mono ?_
      rintro e w37 ⟨rfl, h42⟩
      dsimp only
      have h43 := HK.out.thru h42
      clear h41 h42 HC HK
      have kc := conv_at
      go_wp2_with fail
      have hget := pushA_get (objsX w37.heap.size) w37
      have h44 := Sat.pushA (objsX w37.heap.size) h43
      clear kc h43
      show Calls _ _ #[.slice (some ⟨w37.heap.size + 6, 0, none⟩) 6 6, .slice (some ⟨w37.heap.size + 7, 0, none⟩) 7 7] (pushA w37 (objsX w37.heap.size)) _
      generalize pushA w37 (objsX w37.heap.size) = wX at hget h44 ⊢
      generalize w37.heap.size = m at hget h44 ⊢
      have hcalls := callsX_at hget
      have hints := intsX_at hget
      have HC := Lib.hid hcalls
      have HI := Lib.hid hints
      have HK := Lib.hid h44
      clear hget h44 hcalls hints
      refine (wkeeps_any wX wX (allro wX) (some ⟨m + 6, 0, none⟩) 6 6 (callsX m) intsX (some ⟨m + 7, 0, none⟩) 7 (fun w' h => HC.out.below h.below) (fun w' h => HI.out.below h.below) (by decide) (sat_allro wX)).mono ?_
      rintro e w38 ⟨rfl, h45⟩
      dsimp only
      have h46 := HK.out.thru h45
      clear h45 HC HI HK
      go_wp2_with fail
      refine (wworks_any u w38 F h46).mono ?_
      rintro e w39 ⟨rfl, h47⟩
      dsimp only
      have H := Lib.hid h47
      clear h46 h47
      go_wp2_with fail
      go_ret
      exact ⟨rfl, H.out⟩
end
end Go.Proofs.YtlfmkiclaijokaaGreatDoor
