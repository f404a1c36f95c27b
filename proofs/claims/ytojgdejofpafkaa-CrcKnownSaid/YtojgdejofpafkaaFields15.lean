/- The walk of FieldsReader. -/
import Derived.Test.YtojgdejofpafkaaFields14
import Derived.Test.YtojgdejofpafkaaFork
namespace Go.Proofs.Ytojgdejofpafkaa
open Go.RowKit
set_option linter.unusedVariables false

theorem got_next {u w' : World} {F : HProp} {p : Nat} {all : List UInt8} {st : Option Nat} {n : Int} {e : Ending} (h : GotNext u F p all st n e w') :
    e = .returned (.tuple #[.string (str (bs all st n)), .bool (rd all st n).isSome]) ∧ Sat u w' (isP p all (rd all st n) * F) := by
  rcases h with ⟨k, rfl, h0, hk, rfl, h⟩ | ⟨hk, rfl, h⟩
  · have hc : 0 ≤ n ∧ (k : Int) + n ≤ all.length := ⟨h0, hk⟩
    simp only [bs, rd, if_pos hc]
    exact ⟨rfl, h⟩
  · have e1 : bs all st n = [] ∧ rd all st n = none := by
      cases st with
      | none => exact ⟨rfl, rfl⟩
      | some k =>
        have := hk k rfl
        have hc : ¬ (0 ≤ n ∧ (k : Int) + n ≤ all.length) := by omega
        simp only [bs, rd, if_neg hc, and_self]
    rw [e1.1, e1.2]
    exact ⟨rfl, h⟩

/-- What the reference makes of it. -/
theorem read_of_next (all : List UInt8) (st : Option Nat) (k m : Int) :
    ((rd all st (ask k m)).isSome = false → rnum all st k m = 0 ∧ rrow all st k m = []) ∧
    ((rd all st (ask k m)).isSome = true → (wd k = 0 → rnum all st k m = 0 ∧ rrow all st k m = bs all st (ask k m)) ∧ (wd k ≠ 0 → (bs all st (ask k m)).length = wd k ∧ rnum all st k m = wrap64 (num (bs all st (ask k m))) ∧ rrow all st k m = [])) := by
  refine ⟨fun h => ?_, fun h => ⟨fun hw => ?_, fun hw => ?_⟩⟩
  · have e1 : bs all st (ask k m) = [] := by
      cases st with
      | none => rfl
      | some j =>
        simp only [bs, rd] at h ⊢
        split
        · next hc => rw [if_pos hc] at h; cases h
        · rfl
    unfold rnum rrow
    rw [e1]
    split <;> simp [num, wrap64]
  · unfold rnum rrow
    rw [if_pos hw, if_pos hw]
    exact ⟨rfl, rfl⟩
  · have hl : (bs all st (ask k m)).length = wd k := by
      cases st with
      | none => cases h
      | some j =>
        simp only [bs, rd] at h ⊢
        split
        · next hc =>
          unfold ask at hc ⊢
          rw [if_neg hw] at hc ⊢
          simp
          omega
        · next hc => rw [if_neg hc] at h; cases h
    unfold rnum rrow
    rw [if_neg hw, if_neg hw]
    exact ⟨hl, rfl, rfl⟩

theorem isP_bad {u w : World} {F : HProp} {p : Nat} {all : List UInt8} {st : Option Nat} (h : Sat u w (isP p all st * F)) : w.cell? ⟨p, 2, none⟩ = some (.bool st.isNone) := by
  obtain ⟨k, _, h0⟩ := isP_iff.1 h
  exact h0.cell 2

theorem wd_cases (k : Int) (h : wd k ≠ 0) : wd k = 1 ∨ wd k = 2 ∨ wd k = 4 ∨ wd k = 8 := by
  unfold wd at *
  repeat' split at h
  all_goals simp_all

set_option maxRecDepth 100000 in
set_option maxHeartbeats 4000000 in
theorem reader_walk (w : World) (v : Value) (ob : List UInt8) (hb : BytesAt w v ob) (a : Option Addr) (n c : Nat) (ps : List Pc) (h : PcsAt w a n c ps) :
    Calls Try.prog 11 #[v, .slice a n c] w fun e w' => e = .returned (.bool true) ∧ Sat w w' (allro w) := by
  have hs := sat_allro w
  obtain ⟨oa, oc, rfl, ho1, ho2⟩ := RowAt.len hb
  have hol : ob.length ≤ 9223372036854775807 := Nat.le_trans ho1 ho2
  have hnl : n ≤ 9223372036854775807 := Nat.le_trans h.le h.most
  by_cases ho : 2000 < ob.length
  · clear h hb
    have hd : decide ((ob.length : Int) ≤ 2000) = false := by simp; omega
    go_enter Try.func11, Try.ntmps11
    go_wp2_with fail
    refine (works3 w w _ hs).mono ?_
    rintro e w1 ⟨rfl, h1⟩
    go_wp2
    go_ret
    exact ⟨rfl, h1⟩
  by_cases hn : 60 < n
  · clear h hb
    have hd2 : decide ((ob.length : Int) ≤ 2000) = true := by simp; omega
    have hd : decide ((n : Int) ≤ 60) = false := by simp; omega
    go_enter Try.func11, Try.ntmps11
    go_wp2_with fail
    refine (works3 w w _ hs).mono ?_
    rintro e w1 ⟨rfl, h1⟩
    go_wp2
    go_ret
    exact ⟨rfl, h1⟩
  have hd : decide ((ob.length : Int) ≤ 2000) = true := by simp; omega
  have hd2 : decide ((n : Int) ≤ 60) = true := by simp; omega
  have HO := Lib.hid (fun w' (h' : Sat w w' (allro w)) => hb.below h'.below)
  have HP := Lib.hid (fun j (hj : j < n) => h.all hj)
  clear h
  go_enter Try.func11, Try.ntmps11
  have cv := run_string_of (P := Try.prog) hb 22 9 5 Try.underlying22 Try.underlying5 Try.underlying9
  go_wp2_with (refine wpList_toBytes rfl 9 22 5 _ rfl (str ob) rfl Try.underlying9 Try.underlying22 Try.underlying5 hs ?_ ?_; simp; omega; intro a5 c5 w5 h5)
  rw [str_data] at h5
  simp only [str_size] at h5
  clear hb cv
  go_cut [6, 7] (fun p q wx => ∃ r l : Nat, p = .pointer (some ⟨r, 0, none⟩) ∧ q = .pointer (some ⟨l, 0, none⟩) ∧ Sat w wx (ownT 5 (.slice (some a5) ob.length c5) ob * (isR r ob (some 0) * (isP l ob (some 0) * allro w))))
  case first J K' hJ hmet =>
    refine wp_region_fork [0, 2, 3, 4] 1 5 [(6, true), (5, false), (7, true)] [(1, false), (6, true), (7, true)] (fun x => Sat w x (ownT 5 (.slice (some a5) ob.length c5) ob * allro w)) (by kernel_rfl) (by kernel_rfl) (fun _ _ _ _ _ h => h) ?_
    simp only [pickOps, List.map_cons, List.map_nil, Array.getD_eq_getD_getElem?, List.getElem?_toArray, List.getElem?_cons_succ, List.getElem?_cons_zero, Option.getD_some]
    have h6 := h5.drew
    repeat (first
      | (refine wpSeq_run (by rfl) h6 (fun K hK => ⟨?_, ?_, ?_⟩); rotate_left; (· (intro wS hSw; have cv := run_string_of (P := Try.prog) (HO.out _ hSw.right) 22 9 5 Try.underlying22 Try.underlying5 Try.underlying9; go_simp <;> with_reducible rfl)); simp only [Act.put, List.setIfInBounds_toArray, List.set_cons_zero, List.set_cons_succ]; refine hK _ ?_; clear hK K)
      | (refine wpSeq_skip (by rfl) h6 (fun K hK => ?_); simp only [Act.put, List.setIfInBounds_toArray, List.set_cons_zero, List.set_cons_succ]; refine hK _ ?_; clear hK K))
    refine wpSeq_end ?_
    refine ⟨?_, ?_⟩
    ·
      refine wpSeq_act (by rfl) (fun K hK => ?_)
      go_simp
      refine (open_any w _ _ _ ob h6 h6.ownT_at (by omega)).mono ?_
      rintro e x1 ⟨r, rfl, h7⟩
      try dsimp only
      try simp only [Act.put, List.setIfInBounds_toArray, List.set_cons_zero, List.set_cons_succ]
      refine hK _ _ (_) ((fun _ h => h)) h7.right ?_
      clear hK K
      repeat (first
        | (refine wpSeq_run (by rfl) h7.right (fun K hK => ⟨?_, ?_, ?_⟩); rotate_left; (· (intro wS hSw; go_simp <;> with_reducible rfl)); simp only [Act.put, List.setIfInBounds_toArray, List.set_cons_zero, List.set_cons_succ]; refine hK _ ?_; clear hK K)
        | (refine wpSeq_skip (by rfl) h7.right (fun K hK => ?_); simp only [Act.put, List.setIfInBounds_toArray, List.set_cons_zero, List.set_cons_succ]; refine hK _ ?_; clear hK K))
      refine wpSeq_act (by rfl) (fun K hK => ?_)
      go_simp
      have h8 := h7.alloc (.cells #[.string (str ob), .int .i64 0, .bool false] 58)
      try dsimp only
      try simp only [Act.put, List.setIfInBounds_toArray, List.set_cons_zero, List.set_cons_succ]
      refine hK _ _ (_) ((fun _ h => h)) h8.right.right ?_
      clear hK K
      repeat (first
        | (refine wpSeq_run (by rfl) h8.right.right (fun K hK => ⟨?_, ?_, ?_⟩); rotate_left; (· (intro wS hSw; go_simp <;> with_reducible rfl)); simp only [Act.put, List.setIfInBounds_toArray, List.set_cons_zero, List.set_cons_succ]; refine hK _ ?_; clear hK K)
        | (refine wpSeq_skip (by rfl) h8.right.right (fun K hK => ?_); simp only [Act.put, List.setIfInBounds_toArray, List.set_cons_zero, List.set_cons_succ]; refine hK _ ?_; clear hK K))
      refine wpSeq_end ?_
      refine hmet _ _ ?_
      go_meet
      have h9 : Sat w _ (isP _ ob (some 0) * _) := isP_iff.2 ⟨0, by intro j e; cases e; exact ⟨rfl, Nat.zero_le _⟩, h8⟩
      exact ⟨_, _, rfl, rfl, h9.s2.s3⟩
    ·
      refine wpSeq_act (by rfl) (fun K hK => ?_)
      go_simp
      have h7 := h6.alloc (.cells #[.string (str ob), .int .i64 0, .bool false] 58)
      try dsimp only
      try simp only [Act.put, List.setIfInBounds_toArray, List.set_cons_zero, List.set_cons_succ]
      refine hK _ _ (_) ((fun _ h => h)) h7.right ?_
      clear hK K
      repeat (first
        | (refine wpSeq_run (by rfl) h7.right (fun K hK => ⟨?_, ?_, ?_⟩); rotate_left; (· (intro wS hSw; go_simp <;> with_reducible rfl)); simp only [Act.put, List.setIfInBounds_toArray, List.set_cons_zero, List.set_cons_succ]; refine hK _ ?_; clear hK K)
        | (refine wpSeq_skip (by rfl) h7.right (fun K hK => ?_); simp only [Act.put, List.setIfInBounds_toArray, List.set_cons_zero, List.set_cons_succ]; refine hK _ ?_; clear hK K))
      refine wpSeq_act (by rfl) (fun K hK => ?_)
      go_simp
      refine (open_any w _ _ _ ob h7 h7.right.ownT_at (by omega)).mono ?_
      rintro e x1 ⟨r, rfl, h8⟩
      try dsimp only
      try simp only [Act.put, List.setIfInBounds_toArray, List.set_cons_zero, List.set_cons_succ]
      refine hK _ _ (_) ((fun _ h => h)) h8.right.right ?_
      clear hK K
      repeat (first
        | (refine wpSeq_run (by rfl) h8.right.right (fun K hK => ⟨?_, ?_, ?_⟩); rotate_left; (· (intro wS hSw; go_simp <;> with_reducible rfl)); simp only [Act.put, List.setIfInBounds_toArray, List.set_cons_zero, List.set_cons_succ]; refine hK _ ?_; clear hK K)
        | (refine wpSeq_skip (by rfl) h8.right.right (fun K hK => ?_); simp only [Act.put, List.setIfInBounds_toArray, List.set_cons_zero, List.set_cons_succ]; refine hK _ ?_; clear hK K))
      refine wpSeq_end ?_
      refine hmet _ _ ?_
      go_meet
      have h9 : Sat w _ (isP _ ob (some 0) * _) := isP_iff.2 ⟨0, by intro j e; cases e; exact ⟨rfl, Nat.zero_le _⟩, h8.s2⟩
      exact ⟨_, _, rfl, rfl, h9.s2.s3⟩
  case rest =>
    obtain ⟨r, l, rfl, rfl, h6⟩ := hcut
    clear h5
    have cv := run_string_of (P := Try.prog) (HO.out _ h6.right.right.right) 22 9 5 Try.underlying22 Try.underlying5 Try.underlying9
    have cv' := run_string_of (P := Try.prog) h6.ownT_at 22 9 5 Try.underlying22 Try.underlying5 Try.underlying9
    go_wp2_with fail
    clear cv cv'
    obtain ⟨g, rfl, _, h7⟩ := h6.scr_ofT
    clear h6
    go_loopw [9] (fun i wr => ∃ q : Nat, q ≤ ob.length ∧ i = .int .i64 q ∧ Sat w wr (scr 5 g ob.length * (isR r ob (some 0) * (isP l ob (some 0) * allro w)))) (fun i _ => ob.length - (intOf i).toNat)
    case atStart => exact ⟨0, Nat.zero_le _, rfl, h7⟩
    case round =>
      clear h7
      obtain ⟨q, hq, rfl, h6⟩ := hrel
      by_cases hlq : q < ob.length
      · obtain ⟨x, hx, hf⟩ := h6.scr_get hlq
        have h9 := h6.scr_set q (bits .xor .u8 x 255)
        go_wp2
        go_roundw
        case rel => exact ⟨q + 1, hlq, by go_num, h9⟩
        case measure => simp [intOf]; omega
      · have h7 := h6.right
        clear h6
        go_wp2
        go_loopw [8, 10] (fun t i wr => ∃ (j : Nat) (st : Option Nat), j ≤ n ∧ t = .bool true ∧ i = .int .i64 j ∧ Sat w wr (isR r ob st * (isP l ob st * allro w))) (fun _ i _ => n - (intOf i).toNat)
        case atStart => exact ⟨0, some 0, Nat.zero_le _, rfl, rfl, h7⟩
        case round =>
          clear h7
          obtain ⟨j, st, hj, rfl, rfl, h2⟩ := hrel
          by_cases hlt : j < n
          · obtain ⟨b, o, k, m, s, rfl, hx, hok, hc⟩ := HP.out j hlt
            obtain ⟨k0, k1, m0, m1, _⟩ := hok
            simp only at k0 k1 m0 m1
            clear hx
            obtain ⟨c0, c1, c2⟩ := hc _ h2.right.right
            go_wp2_with fail
            refine (wide_any w _ _ k m s k0 k1 h2).mono ?_
            rintro e x1 ⟨rfl, h3⟩
            dsimp only
            clear c0 c1 c2 h2
            go_upto_if 67 with fail
            go_cut [11] (fun x wx => x = .int .i64 (ask k m) ∧ Sat w wx (isR r ob st * (isP l ob st * allro w)))
            case first J K' hJ hmet =>
              by_cases hwd : wd k = 0
              · have hz : (((wd k : Nat) : Int) == 0) = true := by rw [hwd]; rfl
                obtain ⟨c0, c1, c2⟩ := hc _ h3.right.right
                have hask : ask k m = m := by unfold ask; rw [if_pos hwd]
                rw [hask] at hJ
                clear hwd
                go_wp2_with fail
                go_meet
                exact ⟨rfl, h3⟩
              · have hz : (((wd k : Nat) : Int) == 0) = false := by simp; omega
                have hask : ask k m = (wd k : Nat) := by unfold ask; rw [if_neg hwd]
                rw [hask] at hJ
                clear hwd
                go_wp2_with fail
                go_meet
                exact ⟨rfl, h3⟩
            case rest =>
              obtain ⟨rfl, h4⟩ := hcut
              clear h3
              go_wp2_with fail
              refine (next_any w _ _ l ob st (ask k m) (by omega) h4.s2).mono ?_
              intro e x2 hg
              obtain ⟨rfl, h5⟩ := got_next hg
              clear hg h4
              have HRN := Lib.hid (read_of_next ob st k m)
              generalize hX : bs ob st (ask k m) = X at HRN ⊢
              generalize hST : rd ob st (ask k m) = st' at HRN h5 ⊢
              generalize hrn : rnum ob st k m = rn at HRN
              generalize hrw : rrow ob st k m = rw' at HRN
              have HST := Lib.hid hST
              have HRq := Lib.hid hrn
              have HRw := Lib.hid hrw
              clear hX hST hrn hrw
              dsimp only
              obtain ⟨c0, c1, c2⟩ := hc _ h5.right.right
              go_upto_region 18 with fail
              have h6 := h5.alloc (.cells #[.int .u8 k, .int .i64 0, .string ⟨#[]⟩] 40)
              generalize x2.heap.size = b14 at h6 ⊢
              generalize x2.alloc _ = x3 at h6 ⊢
              clear c0 c1 c2 h5
              go_cut [93] (fun x wx => x = .bool (st'.isSome && decide (0 < wd k)) ∧ Sat w wx (own b14 (.cells #[.int .u8 k, .int .i64 0, .string ⟨#[]⟩] 40 (0, 0)) * (isP l ob st' * (isR r ob st * allro w))))
              case first J K' hJ hmet =>
                obtain ⟨c0, c1, c2⟩ := hc _ h6.right.right.right
                cases st' with
                | none =>
                  simp only [Option.isSome_none, Bool.false_and] at hJ ⊢
                  go_wp2_with fail
                  go_meet
                  exact ⟨rfl, h6⟩
                | some q' =>
                  have hdd : decide ((0 : Int) < (wd k : Nat)) = decide (0 < wd k) := decide_eq_decide.2 (by omega)
                  simp only [Option.isSome_some, Bool.true_and] at hJ ⊢
                  go_wp2_with fail
                  refine (wide_any w _ _ k m s k0 k1 h6).mono ?_
                  rintro e x4 ⟨rfl, h7⟩
                  dsimp only
                  clear c0 c1 c2
                  go_wp2_with fail
                  go_meet
                  exact ⟨rfl, h7⟩
              case rest =>
                obtain ⟨rfl, h7⟩ := hcut
                clear h6
                go_upto_if 93 with fail
                go_cut [14] (fun p wx => p = .pointer (some ⟨b14, 0, none⟩) ∧ Sat w wx (own b14 (.cells #[.int .u8 k, .int .i64 rn, .string (str rw')] 40 (0, 0)) * (isP l ob st' * (isR r ob st * allro w))))
                case first J K' hJ hmet =>
                  have f1 := h7.free 1
                  have f2 := h7.free 2
                  have e0 := h7.cell 0
                  have e1 := h7.cell 1
                  have e2 := h7.cell 2
                  cases st' with
                  | none =>
                    obtain ⟨rfl, rfl⟩ := HRN.out.1 rfl
                    simp only [Option.isSome_none, Bool.false_and]
                    go_wp2_with fail
                    go_meet
                    exact ⟨rfl, h7⟩
                  | some q' =>
                    by_cases hw : wd k = 0
                    · obtain ⟨rfl, rfl⟩ := (HRN.out.2 rfl).1 hw
                      have hd0 : decide (0 < wd k) = false := by simp; omega
                      simp only [Option.isSome_some, Bool.true_and, hd0]
                      clear hd0 hw
                      go_wp2_with fail
                      go_meet
                      have h8 := h7.setCell 2 (.string (str rw'))
                      exact ⟨rfl, h8⟩
                    · obtain ⟨hXl, rfl, rfl⟩ := (HRN.out.2 rfl).2 hw
                      have hd0 : decide (0 < wd k) = true := by simp; omega
                      simp only [Option.isSome_some, Bool.true_and, hd0]
                      have hw' := hw
                      clear hd0 hw
                      have hl4 := wd_cases k hw'
                      rw [← hXl] at hl4
                      have hX8 : X.length ≤ 8 := by omega
                      have HL4 := Lib.hid hl4
                      clear hXl hl4 hw'
                      go_wp2_with (refine wpList_toBytes rfl 9 22 5 _ rfl (str X) rfl Try.underlying9 Try.underlying22 Try.underlying5 h7 ?_ ?_; simp; omega; intro a9 c9 w9 h9)
                      rw [str_data] at h9
                      simp only [str_size] at h9
                      refine (number_any w9 _ X h9.ownT_at HL4.out).mono ?_
                      rintro e x5 ⟨rfl, nq, rfl⟩
                      have h10 := (h9.right).drewN nq
                      generalize w9.drewN nq = x5 at h10 ⊢
                      dsimp only
                      clear f1 f2 e0 e1 e2 h9
                      have f1 := h10.free 1
                      have e0 := h10.cell 0
                      have e1 := h10.cell 1
                      have e2 := h10.cell 2
                      go_wp2_with fail
                      go_meet
                      exact ⟨rfl, h10.setCell 1 (.int .i64 (wrap64 (num X)))⟩
                case rest =>
                  obtain ⟨rfl, h8⟩ := hcut
                  clear h7 HRN
                  go_upto_region 22 with fail
                  refine wp_region_seq [(0, true), (1, true), (2, true), (3, true), (4, true), (6, true), (5, false), (7, true), (8, true), (9, true), (11, true), (10, false), (12, false), (13, true), (14, true), (15, true), (16, true), (18, true), (19, true), (20, true), (21, true), (17, false), (22, true), (23, true), (24, true)] (fun x => ∃ st2, Sat w x (own b14 (.cells #[.int .u8 k, .int .i64 rn, .string (str rw')] 40 (0, 0)) * (isP l ob st' * (isR r ob st2 * allro w)))) (by kernel_rfl) (by kernel_rfl) (fun _ _ _ _ _ h => h) ?_
                  simp only [pickOps, Array.getD_eq_getD_getElem?, List.getElem?_toArray, List.getElem?_cons_succ, List.getElem?_cons_zero, Option.getD_some]
                  have h9 := h8.drew
                  have hbb : ∀ z : Int, (z == z) = true := fun z => by simp
                  have hbo : ∀ z : Bool, (z == z) = true := fun z => by simp
                  repeat (first
                    | (refine wpSeq_run (by rfl) ⟨_, h9⟩ (fun K hK => ⟨?_, ?_, ?_⟩); rotate_left; (· (intro wS hSw; have ⟨st2, hx⟩ := hSw; have e0 := hx.cell 0; have e1 := hx.cell 1; have e2 := hx.cell 2; have ⟨d0, d1, d2⟩ := hc _ hx.right.right.right; go_simp <;> with_reducible rfl)); simp only [Act.put, List.setIfInBounds_toArray, List.set_cons_zero, List.set_cons_succ]; refine hK _ ?_; clear hK K)
                    | (refine wpSeq_skip (by rfl) ⟨_, h9⟩ (fun K hK => ?_); simp only [Act.put, List.setIfInBounds_toArray, List.set_cons_zero, List.set_cons_succ]; refine hK _ ?_; clear hK K))
                  refine wpSeq_act (by rfl) (fun K hK => ?_)
                  go_simp
                  refine (read_any w _ _ r ob st k m s k0 k1 (by omega) h9.s3).mono ?_
                  rintro e x5 ⟨rfl, j1⟩
                  rw [HST.out] at j1
                  rw [HRq.out, HRw.out]
                  have h10 := j1.s3.s3
                  clear j1 h9 h8
                  try dsimp only
                  try simp only [Act.put, List.setIfInBounds_toArray, List.set_cons_zero, List.set_cons_succ]
                  refine hK _ _ (fun x => Sat w x (own b14 (.cells #[.int .u8 k, .int .i64 rn, .string (str rw')] 40 (0, 0)) * (isP l ob st' * (isR r ob st' * allro w)))) ((fun _ h => ⟨_, h⟩)) h10 ?_
                  clear hK K
                  repeat (first
                    | (refine wpSeq_run (by rfl) h10 (fun K hK => ⟨?_, ?_, ?_⟩); rotate_left; (· (intro wS hSw; go_simp <;> with_reducible rfl)); simp only [Act.put, List.setIfInBounds_toArray, List.set_cons_zero, List.set_cons_succ]; refine hK _ ?_; clear hK K)
                    | (refine wpSeq_skip (by rfl) h10 (fun K hK => ?_); simp only [Act.put, List.setIfInBounds_toArray, List.set_cons_zero, List.set_cons_succ]; refine hK _ ?_; clear hK K))
                  refine wpSeq_act (by rfl) (fun K hK => ?_)
                  go_simp
                  refine (rleft_any w _ _ r ob _ (by omega) h10.s3).mono ?_
                  rintro e x6 ⟨rfl, nq, rfl⟩
                  have h11 := h10.drewN nq
                  generalize x5.drewN nq = x6 at h11 ⊢
                  try dsimp only
                  try simp only [Act.put, List.setIfInBounds_toArray, List.set_cons_zero, List.set_cons_succ]
                  refine hK _ _ (_) ((fun _ h => h)) h11 ?_
                  clear hK K
                  refine wpSeq_act (by rfl) (fun K hK => ?_)
                  go_simp
                  refine (pleft_any w _ _ l ob _ (by omega) h11.s2).mono ?_
                  rintro e x7 ⟨rfl, nq2, rfl⟩
                  have h12 := h11.drewN nq2
                  generalize x6.drewN nq2 = x7 at h12 ⊢
                  try dsimp only
                  try simp only [Act.put, List.setIfInBounds_toArray, List.set_cons_zero, List.set_cons_succ]
                  refine hK _ _ (_) ((fun _ h => h)) h12 ?_
                  clear hK K
                  clear h10 h11
                  repeat (first
                    | (refine wpSeq_run (by rfl) h12 (fun K hK => ⟨?_, ?_, ?_⟩); rotate_left; (· (intro wS hSw; have p2 := isP_bad hSw.s2; go_simp <;> with_reducible rfl)); simp only [Act.put, List.setIfInBounds_toArray, List.set_cons_zero, List.set_cons_succ]; refine hK _ ?_; clear hK K)
                    | (refine wpSeq_skip (by rfl) h12 (fun K hK => ?_); simp only [Act.put, List.setIfInBounds_toArray, List.set_cons_zero, List.set_cons_succ]; refine hK _ ?_; clear hK K))
                  refine wpSeq_act (by rfl) (fun K hK => ?_)
                  go_simp
                  refine (rbad_any w _ _ r ob _ h12.s3).mono ?_
                  rintro e x8 ⟨rfl, rfl⟩
                  try dsimp only
                  try simp only [Act.put, List.setIfInBounds_toArray, List.set_cons_zero, List.set_cons_succ]
                  refine hK _ _ (_) ((fun _ h => h)) h12 ?_
                  clear hK K
                  repeat (first
                    | (refine wpSeq_run (by rfl) h12 (fun K hK => ⟨?_, ?_, ?_⟩); rotate_left; (· (intro wS hSw; go_simp <;> with_reducible rfl)); simp only [Act.put, List.setIfInBounds_toArray, List.set_cons_zero, List.set_cons_succ]; refine hK _ ?_; clear hK K)
                    | (refine wpSeq_skip (by rfl) h12 (fun K hK => ?_); simp only [Act.put, List.setIfInBounds_toArray, List.set_cons_zero, List.set_cons_succ]; refine hK _ ?_; clear hK K))
                  refine wpSeq_end ?_
                  go_wp2_with fail
                  go_roundw
                  case rel => exact ⟨j + 1, st', hlt, rfl, by go_num, h12.right.s2⟩
                  case measure => simp [intOf]; omega
          · go_wp2_with fail
            refine (works3 w _ _ h2).mono ?_
            rintro e x9 ⟨rfl, h3⟩
            go_wp2
            go_ret
            exact ⟨rfl, h3.right.right⟩
end Go.Proofs.Ytojgdejofpafkaa
