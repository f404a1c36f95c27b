/- The walk of FieldsThere. -/
import Derived.Test.YtojgdejofpafkaaFields12
namespace Go.Proofs.Ytojgdejofpafkaa
open Go.RowKit
set_option linter.unusedVariables false

theorem U_lt (n : Int) : U n < 256 ^ 8 := by
  unfold U
  omega

theorem U_wrap (n : Nat) (h : n < 256 ^ 8) : U (wrap64 n) = n := by
  unfold U wrap64
  omega

theorem pow_wd (k : Int) : 256 ^ wd k ≤ 256 ^ 8 := Nat.pow_le_pow_right (by decide) (by
  unfold wd
  repeat' split
  all_goals omega)

theorem pb_ask (k m : Int) (s : ByteArray) : ask k s.size = ((pb k m s).length : Int) := by
  unfold ask pb
  split
  · show (s.size : Int) = (s.data.toList.length : Nat)
    rw [Array.length_toList]
    rfl
  · rw [be_length]

/-- What was put comes back: a number is read as it was put. -/
theorem pb_back (A B : List UInt8) (k m : Int) (s : ByteArray) (st : Option Nat) (hst : st = some A.length) :
    rd (A ++ (pb k m s ++ B)) st (ask k s.size) = some (A ++ pb k m s).length ∧
    pb k (rnum (A ++ (pb k m s ++ B)) st k s.size) (str (rrow (A ++ (pb k m s ++ B)) st k s.size)) = pb k m s := by
  subst hst
  have ha := pb_ask k m s
  have hc : 0 ≤ ask k s.size ∧ (A.length : Int) + ask k s.size ≤ (A ++ (pb k m s ++ B)).length := by
    rw [ha]
    simp only [List.length_append]
    omega
  have hb : bs (A ++ (pb k m s ++ B)) (some A.length) (ask k s.size) = pb k m s := by
    simp only [bs, if_pos hc]
    rw [ha, Int.toNat_natCast]
    simp
  refine ⟨?_, ?_⟩
  · simp only [rd, if_pos hc]
    rw [ha, Int.toNat_natCast, List.length_append]
  · unfold rnum rrow
    by_cases hw : wd k = 0
    · rw [if_pos hw, if_pos hw, hb]
      unfold pb
      rw [if_pos hw, if_pos hw]
      rw [str_data]
    · rw [if_neg hw, if_neg hw, hb]
      have e : pb k m s = be (wd k) (U m) := by unfold pb; rw [if_neg hw]
      have hn : num (pb k m s) < 256 ^ 8 := Nat.lt_of_lt_of_le (by rw [e]; have := num_lt (be (wd k) (U m)); rwa [be_length] at this) (pow_wd k)
      have hl : (pb k m s).length = wd k := by rw [e, be_length]
      show (if wd k = 0 then _ else _) = _
      rw [if_neg hw, U_wrap _ hn, ← hl]
      exact be_num _

theorem PcsAt.all {w : World} {a : Option Addr} {n c : Nat} {ps : List Pc} (h : PcsAt w a n c ps) {j : Nat} (hj : j < n) :
    ∃ b o k m s, a = some ⟨b, o, none⟩ ∧ ps[j]? = some (k, m, s) ∧ okPc (k, m, s) ∧ ∀ w', Sat w w' (allro w) → w'.cell? ⟨b, o + j * 3, none⟩ = some (.int .u8 k) ∧ w'.cell? ⟨b, o + j * 3 + 1, none⟩ = some (.int .i64 m) ∧ w'.cell? ⟨b, o + j * 3 + 2, none⟩ = some (.string s) := by
  obtain ⟨b, o, k, m, s, ha, hx, hok, c0, c1, c2⟩ := h.get hj
  have key : ∀ {w' : World} {q : Addr} {v : Value}, Sat w w' (allro w) → w.cell? q = some v → w'.cell? q = some v := fun hw hq => (hw.below.cell (World.block_lt_of_cell? w _ hq)).trans hq
  exact ⟨b, o, k, m, s, ha, hx, hok, fun w' hw => ⟨key hw c0, key hw c1, key hw c2⟩⟩

set_option maxHeartbeats 4000000 in
theorem there_walk (w : World) (a : Option Addr) (n c : Nat) (ps : List Pc) (h : PcsAt w a n c ps) (v : Value) (ob : List UInt8) (hb : BytesAt w v ob) :
    Calls Try.prog 12 #[.slice a n c, v] w fun e w' => e = .returned (.bool true) ∧ Sat w w' (allro w) := by
  have hs := sat_allro w
  obtain ⟨oa, oc, rfl, ho1, ho2⟩ := RowAt.len hb
  have hol : ob.length ≤ 9223372036854775807 := Nat.le_trans ho1 ho2
  cases hf : fewB ps with
  | false =>
    have hfw := few_any w a n c ps h
    rw [hf] at hfw
    clear hf
    have HF := Lib.hid hfw
    clear hfw h
    go_enter Try.func12, Try.ntmps12
    go_wp2_with fail
    refine HF.out.mono ?_
    rintro e w1 ⟨rfl, rfl⟩
    dsimp only
    go_wp2_with fail
    refine (works3 w w _ hs).mono ?_
    rintro e w1 ⟨rfl, h1⟩
    go_wp2
    go_ret
    exact ⟨rfl, h1⟩
  | true =>
    have hfw := few_any w a n c ps h
    rw [hf] at hfw
    have HB := Lib.hid (few_bound hf)
    have hn60 : n ≤ 60 := by rw [h.len]; exact (few_bound hf 0).1
    have HN := Lib.hid h.len
    clear hf
    have HF := Lib.hid hfw
    clear hfw
    by_cases ho : 2000 < ob.length
    · have hd : decide ((ob.length : Int) ≤ 2000) = false := by simp; omega
      clear h
      go_enter Try.func12, Try.ntmps12
      go_wp2_with fail
      refine HF.out.mono ?_
      rintro e w1 ⟨rfl, rfl⟩
      dsimp only
      go_wp2_with fail
      refine (works3 w w _ hs).mono ?_
      rintro e w1 ⟨rfl, h1⟩
      go_wp2
      go_ret
      exact ⟨rfl, h1⟩
    · have hd : decide ((ob.length : Int) ≤ 2000) = true := by simp; omega
      have h1 := isW_new hs
      have HO := Lib.hid (fun w' (h' : Sat w w' (allro w)) => hb.below h'.below)
      have HP := Lib.hid (fun j (hj : j < n) => h.all hj)
      clear h hb
      go_enter Try.func12, Try.ntmps12
      go_wp2_with fail
      refine HF.out.mono ?_
      rintro e w1 ⟨rfl, rfl⟩
      dsimp only
      go_wp2
      generalize w.heap.size = b5 at h1 ⊢
      generalize w.alloc _ = w1 at h1 ⊢
      clear HF
      go_loopw [6] (fun i wr => ∃ j : Nat, j ≤ n ∧ i = .int .i64 j ∧ Sat w wr (isW b5 (pbs (ps.take j)) * allro w)) (fun i _ => n - (intOf i).toNat)
      case atStart => exact ⟨0, Nat.zero_le _, rfl, h1⟩
      case round =>
        clear h1
        obtain ⟨j, hj, rfl, h2⟩ := hrel
        by_cases hlt : j < n
        · obtain ⟨b, o, k, m, s, rfl, hx, hok, hc⟩ := HP.out j hlt
          obtain ⟨c0, c1, c2⟩ := hc wr h2.right
          have hB := HB.out j
          have hss : s.size ≤ 2000 := hB.2.2 _ (List.mem_of_getElem? hx)
          have hbl := hB.2.1
          have HS := Lib.hid (pbs_snoc ps j _ hx)
          obtain ⟨k0, k1, m0, m1, _⟩ := hok
          simp only at k0 k1 m0 m1
          clear hB hc hx
          go_wp2_with fail
          refine (put_any w wr _ _ _ k m s k0 k1 h2 (by omega)).mono ?_
          rintro e w2 ⟨rfl, h3⟩
          rw [← HS.out] at h3
          dsimp only
          clear c0 c1 c2 HS
          go_wp2
          go_roundw
          case rel => exact ⟨j + 1, hlt, by go_num, h3⟩
          case measure => simp [intOf]; omega
        · have hje : j = n := by omega
          subst hje
          have hX := (HB.out j).2.1
          have hA : pbs (ps.take j) = pbs ps := by rw [HN.out, List.take_length]
          rw [hA] at hX h2
          clear hA
          go_wp2_with fail
          refine (raw_any w wr _ b5 _ ob _ h2 (HO.out wr h2.right) (by omega)).mono ?_
          rintro e w2 ⟨rfl, h3⟩
          dsimp only
          clear h2 hj hlt
          have hall : (pbs ps ++ ob).length ≤ 2480 + 2000 := by rw [List.length_append]; omega
          generalize hAll : pbs ps ++ ob = all at hall h3
          have HA := Lib.hid hAll
          clear hAll hX
          go_wp2_with fail
          refine (out_any w w2 _ b5 all h3 (by omega)).mono ?_
          rintro e w3 ⟨a3, c3, rfl, h4⟩
          dsimp only
          clear h3
          go_wp2_with fail
          refine (open_any w w3 _ _ all h4 h4.bytes (by omega)).mono ?_
          rintro e w4 ⟨p, rfl, h5⟩
          dsimp only
          have h6 := h5.dr.dr
          clear h4 h5
          go_wp2_with fail
          go_loopw [8] (fun i wr => ∃ q : Nat, q ≤ j ∧ i = .int .i64 q ∧ Sat w wr (isR p all (some (pbs (ps.take q)).length) * allro w)) (fun i _ => j - (intOf i).toNat)
          case atStart => exact ⟨0, Nat.zero_le _, rfl, h6⟩
          case round =>
            clear h6
            obtain ⟨q, hq, rfl, h2⟩ := hrel
            by_cases hlt : q < j
            · obtain ⟨b, o, k, m, s, rfl, hx, hok, hc⟩ := HP.out q hlt
              have hss : s.size ≤ 2000 := (HB.out q).2.2 _ (List.mem_of_getElem? hx)
              have HS := Lib.hid (pbs_snoc ps q _ hx)
              obtain ⟨k0, k1, m0, m1, _⟩ := hok
              simp only at k0 k1 m0 m1
              clear hx
              go_upto_region 13 with fail
              refine wp_region_seq [(0, true), (1, true), (2, true), (3, true), (4, true), (5, true), (6, true), (7, true), (8, true), (9, true), (10, true), (11, true), (12, false), (13, false)] (fun x => Sat w x (isR p all (some (pbs (ps.take q)).length) * allro w)) (by kernel_rfl) (by kernel_rfl) (fun _ _ _ _ _ h => h) ?_
              simp only [pickOps, Array.getD_eq_getD_getElem?, List.getElem?_toArray, List.getElem?_cons_succ, List.getElem?_cons_zero, Option.getD_some]
              have h3 := h2.drew
              repeat (first
                | (refine wpSeq_run (by rfl) h3 (fun K hK => ⟨?_, ?_, ?_⟩); rotate_left; (· (intro wS hSw; have ⟨c0, c1, c2⟩ := hc _ hSw.right; go_simp <;> with_reducible rfl)); simp only [Act.put, List.setIfInBounds_toArray, List.set_cons_zero, List.set_cons_succ]; refine hK _ ?_; clear hK K)
                | (refine wpSeq_skip (by rfl) h3 (fun K hK => ?_); simp only [Act.put, List.setIfInBounds_toArray, List.set_cons_zero, List.set_cons_succ]; refine hK _ ?_; clear hK K))
              refine wpSeq_act (by rfl) (fun K hK => ?_)
              go_simp
              try dsimp only
              try simp only [Act.put, List.setIfInBounds_toArray, List.set_cons_zero, List.set_cons_succ]
              refine hK _ _ (_) ((fun _ h => h)) (h3.alloc _).right ?_
              clear hK K
              refine wpSeq_act (by rfl) (fun K hK => ?_)
              go_simp
              try dsimp only
              try simp only [Act.put, List.setIfInBounds_toArray, List.set_cons_zero, List.set_cons_succ]
              refine hK _ _ (_) ((fun _ h => h)) (h3.alloc _).right ?_
              clear hK K
              refine wpSeq_end ?_
              have h4 := h3.alloc (.cells #[.int .u8 k, .int .i64 (s.size : Int), .string ⟨#[]⟩] 40)
              go_wp2_with fail
              refine (read_any w _ _ p all _ k s.size ⟨#[]⟩ k0 k1 (by omega) h4.s2).mono ?_
              rintro e x1 ⟨rfl, h5⟩
              dsimp only
              obtain ⟨B, hBq⟩ : ∃ B, all = pbs (ps.take q) ++ (pb k m s ++ B) := by
                refine ⟨pbs (ps.drop (q + 1)) ++ ob, ?_⟩
                have e1 : pbs ps = pbs (ps.take (q + 1)) ++ pbs (ps.drop (q + 1)) := by
                  conv => lhs; rw [← List.take_append_drop (q + 1) ps]
                  simp only [pbs, List.flatMap_append]
                rw [← HA.out, e1, HS.out]
                simp only [List.append_assoc]
              obtain ⟨hb1, hb2⟩ := pb_back (pbs (ps.take q)) B k m s _ rfl
              rw [← hBq] at hb1 hb2
              rw [hb1, ← HS.out] at h5
              have HBK := Lib.hid hb2
              clear hb1 hb2 hBq h2 h3 h4
              have h6 := h5.dr
              generalize rnum all (some (pbs (ps.take q)).length) k s.size = rn at HBK ⊢
              generalize rrow all (some (pbs (ps.take q)).length) k s.size = rw' at HBK ⊢
              clear h5
              go_upto_region 15 with fail
              have h7 := h6.alloc (.cells #[.int .u8 k, .int .i64 rn, .string (str rw')] 40)
              generalize x1.heap.size = b10 at h7 ⊢
              generalize x1.alloc _ = x2 at h7 ⊢
              clear h6
              refine wp_region_seq [(0, true), (2, true), (3, true), (4, true), (5, true), (1, false), (6, false), (7, true), (8, true), (9, true), (10, false), (11, true)] (fun x => Sat w x (own b10 (.cells #[.int .u8 k, .int .i64 rn, .string (str rw')] 40 (0, 0)) * (isR p all (some (pbs (ps.take (q + 1))).length) * allro w))) (by kernel_rfl) (by kernel_rfl) (fun _ _ _ _ _ h => h) ?_
              simp only [pickOps, Array.getD_eq_getD_getElem?, List.getElem?_toArray, List.getElem?_cons_succ, List.getElem?_cons_zero, Option.getD_some]
              have h8 := h7.drew
              repeat (first
                | (refine wpSeq_run (by rfl) h8 (fun K hK => ⟨?_, ?_, ?_⟩); rotate_left; (· (intro wS hSw; have c0 := hSw.cell 0; have c1 := hSw.cell 1; have c2 := hSw.cell 2; have ⟨d0, d1, d2⟩ := hc _ hSw.right.right; go_simp <;> with_reducible rfl)); simp only [Act.put, List.setIfInBounds_toArray, List.set_cons_zero, List.set_cons_succ]; refine hK _ ?_; clear hK K)
                | (refine wpSeq_skip (by rfl) h8 (fun K hK => ?_); simp only [Act.put, List.setIfInBounds_toArray, List.set_cons_zero, List.set_cons_succ]; refine hK _ ?_; clear hK K))
              refine wpSeq_act (by rfl) (fun K hK => ?_)
              go_simp
              refine (bytes_any w _ _ k rn (str rw') k0 k1 h8).mono ?_
              rintro e x3 ⟨rfl, j1⟩
              rw [HBK.out]
              try dsimp only
              try simp only [Act.put, List.setIfInBounds_toArray, List.set_cons_zero, List.set_cons_succ]
              refine hK _ _ (_) ((fun _ h => h)) j1 ?_
              clear hK K
              refine wpSeq_act (by rfl) (fun K hK => ?_)
              go_simp
              refine (bytes_any w _ _ k m s k0 k1 j1).mono ?_
              rintro e x4 ⟨rfl, j2⟩
              try dsimp only
              try simp only [Act.put, List.setIfInBounds_toArray, List.set_cons_zero, List.set_cons_succ]
              refine hK _ _ (_) ((fun _ h => h)) j2 ?_
              clear hK K
              repeat (first
                | (refine wpSeq_run (by rfl) j2 (fun K hK => ⟨?_, ?_, ?_⟩); rotate_left; (· (intro wS hSw; go_simp <;> with_reducible rfl)); simp only [Act.put, List.setIfInBounds_toArray, List.set_cons_zero, List.set_cons_succ]; refine hK _ ?_; clear hK K)
                | (refine wpSeq_skip (by rfl) j2 (fun K hK => ?_); simp only [Act.put, List.setIfInBounds_toArray, List.set_cons_zero, List.set_cons_succ]; refine hK _ ?_; clear hK K))
              refine wpSeq_act (by rfl) (fun K hK => ?_)
              go_simp
              refine (rbad_any w _ _ p all _ j2.s2).mono ?_
              rintro e x5 ⟨rfl, rfl⟩
              try simp only [Option.isNone_some]
              try dsimp only
              try simp only [Act.put, List.setIfInBounds_toArray, List.set_cons_zero, List.set_cons_succ]
              refine hK _ _ (_) ((fun _ h => h)) j2 ?_
              clear hK K
              repeat (first
                | (refine wpSeq_run (by rfl) j2 (fun K hK => ⟨?_, ?_, ?_⟩); rotate_left; (· (intro wS hSw; go_simp <;> with_reducible rfl)); simp only [Act.put, List.setIfInBounds_toArray, List.set_cons_zero, List.set_cons_succ]; refine hK _ ?_; clear hK K)
                | (refine wpSeq_skip (by rfl) j2 (fun K hK => ?_); simp only [Act.put, List.setIfInBounds_toArray, List.set_cons_zero, List.set_cons_succ]; refine hK _ ?_; clear hK K))
              refine wpSeq_end ?_
              go_wp2_with fail
              go_roundw
              case rel => exact ⟨q + 1, hlt, by go_num, j2.right⟩
              case measure => simp [intOf]; omega
            · have hqe : q = j := by omega
              subst hqe
              have hA : pbs (ps.take q) = pbs ps := by rw [HN.out, List.take_length]
              rw [hA] at h2
              have hle : leftOf all (some (pbs ps).length) = ob.length := by rw [← HA.out]; simp [leftOf]
              have hbs : bs all (some (pbs ps).length) ob.length = ob := by
                rw [← HA.out]
                simp [bs]
              have HL := Lib.hid hle
              have HBS := Lib.hid hbs
              have hbb : ((ob.length : Int) == (ob.length : Int)) = true := by simp
              clear hA hle hbs hlt hq
              go_upto_region 17 with fail
              refine wp_region_seq [(0, true), (2, true), (3, true), (1, false), (4, true), (5, true), (6, true), (7, true), (8, true), (11, true), (12, true), (9, false), (10, true), (13, true), (14, true), (15, true), (16, true), (17, false), (18, true), (19, true), (20, true), (21, false), (22, true), (23, true)] (fun x => ∃ st, Sat w x (isR p all st * allro w)) (by kernel_rfl) (by kernel_rfl) (fun _ _ _ _ _ h => h) ?_
              simp only [pickOps, Array.getD_eq_getD_getElem?, List.getElem?_toArray, List.getElem?_cons_succ, List.getElem?_cons_zero, Option.getD_some]
              have h3 := h2.drew
              repeat (first
                | (refine wpSeq_run (by rfl) ⟨_, h3⟩ (fun K hK => ⟨?_, ?_, ?_⟩); rotate_left; (· (intro wS hSw; go_simp <;> with_reducible rfl)); simp only [Act.put, List.setIfInBounds_toArray, List.set_cons_zero, List.set_cons_succ]; refine hK _ ?_; clear hK K)
                | (refine wpSeq_skip (by rfl) ⟨_, h3⟩ (fun K hK => ?_); simp only [Act.put, List.setIfInBounds_toArray, List.set_cons_zero, List.set_cons_succ]; refine hK _ ?_; clear hK K))
              refine wpSeq_act (by rfl) (fun K hK => ?_)
              go_simp
              refine (rleft_any w _ _ p all _ (by omega) h3).mono ?_
              rintro e x1 ⟨rfl, nq, rfl⟩
              rw [HL.out]
              have h4 := h3.drewN nq
              generalize wr.drew.drewN nq = x1 at h4 ⊢
              try dsimp only
              try simp only [Act.put, List.setIfInBounds_toArray, List.set_cons_zero, List.set_cons_succ]
              refine hK _ _ (_) ((fun _ h => h)) ⟨_, h4⟩ ?_
              clear hK K
              repeat (first
                | (refine wpSeq_run (by rfl) ⟨_, h4⟩ (fun K hK => ⟨?_, ?_, ?_⟩); rotate_left; (· (intro wS hSw; have ⟨st', hSx⟩ := hSw; have cv := run_string_of (P := Try.prog) ((HO.out _ hSx.right)) 22 9 5 Try.underlying22 Try.underlying5 Try.underlying9; go_simp <;> with_reducible rfl)); simp only [Act.put, List.setIfInBounds_toArray, List.set_cons_zero, List.set_cons_succ]; refine hK _ ?_; clear hK K)
                | (refine wpSeq_skip (by rfl) ⟨_, h4⟩ (fun K hK => ?_); simp only [Act.put, List.setIfInBounds_toArray, List.set_cons_zero, List.set_cons_succ]; refine hK _ ?_; clear hK K))
              refine wpSeq_act (by rfl) (fun K hK => ?_)
              go_simp
              refine (rraw_any w _ _ p all _ ob.length h4 (by omega)).mono ?_
              intro e x2 hg
              obtain ⟨a4, c4, rfl, h5⟩ := got_raw hg
              rw [HBS.out] at h5 ⊢
              have hrd : rd all (some (pbs ps).length) ob.length = some ((pbs ps).length + ob.length) := by
                have hc : 0 ≤ (ob.length : Int) ∧ ((pbs ps).length : Int) + ob.length ≤ all.length := by
                  rw [← HA.out, List.length_append]
                  omega
                simp only [rd, if_pos hc, Int.toNat_natCast]
              rw [hrd] at h5
              clear hrd hg
              try dsimp only
              try simp only [Act.put, List.setIfInBounds_toArray, List.set_cons_zero, List.set_cons_succ]
              refine hK _ _ (fun x => ∃ st, Sat w x (ownB (.slice a4 ob.length c4) ob * (isR p all st * allro w))) ((fun _ ⟨_, h⟩ => ⟨_, h.right⟩)) ⟨_, h5⟩ ?_
              clear hK K
              repeat (first
                | (refine wpSeq_run (by rfl) ⟨_, h5⟩ (fun K hK => ⟨?_, ?_, ?_⟩); rotate_left; (· (intro wS hSw; have ⟨st', hSx⟩ := hSw; have cv := run_string_of (P := Try.prog) ((HO.out _ hSx.right.right)) 22 9 5 Try.underlying22 Try.underlying5 Try.underlying9; have cv' := run_string_of (P := Try.prog) ((hSx.bytes)) 22 9 5 Try.underlying22 Try.underlying5 Try.underlying9; go_simp <;> with_reducible rfl)); simp only [Act.put, List.setIfInBounds_toArray, List.set_cons_zero, List.set_cons_succ]; refine hK _ ?_; clear hK K)
                | (refine wpSeq_skip (by rfl) ⟨_, h5⟩ (fun K hK => ?_); simp only [Act.put, List.setIfInBounds_toArray, List.set_cons_zero, List.set_cons_succ]; refine hK _ ?_; clear hK K))
              refine wpSeq_act (by rfl) (fun K hK => ?_)
              go_simp
              refine (rbad_any w _ _ p all _ h5.s2).mono ?_
              rintro e x5 ⟨rfl, rfl⟩
              try simp only [Option.isNone_some]
              try dsimp only
              try simp only [Act.put, List.setIfInBounds_toArray, List.set_cons_zero, List.set_cons_succ]
              refine hK _ _ (_) ((fun _ h => h)) ⟨_, h5⟩ ?_
              clear hK K
              repeat (first
                | (refine wpSeq_run (by rfl) ⟨_, h5⟩ (fun K hK => ⟨?_, ?_, ?_⟩); rotate_left; (· (intro wS hSw; go_simp <;> with_reducible rfl)); simp only [Act.put, List.setIfInBounds_toArray, List.set_cons_zero, List.set_cons_succ]; refine hK _ ?_; clear hK K)
                | (refine wpSeq_skip (by rfl) ⟨_, h5⟩ (fun K hK => ?_); simp only [Act.put, List.setIfInBounds_toArray, List.set_cons_zero, List.set_cons_succ]; refine hK _ ?_; clear hK K))
              refine wpSeq_act (by rfl) (fun K hK => ?_)
              go_simp
              refine (works3 w _ _ h5).mono ?_
              rintro e x6 ⟨rfl, h6⟩
              try dsimp only
              try simp only [Act.put, List.setIfInBounds_toArray, List.set_cons_zero, List.set_cons_succ]
              refine hK _ _ (_) ((fun _ h => h)) ⟨_, h6⟩ ?_
              clear hK K
              repeat (first
                | (refine wpSeq_run (by rfl) ⟨_, h6⟩ (fun K hK => ⟨?_, ?_, ?_⟩); rotate_left; (· (intro wS hSw; go_simp <;> with_reducible rfl)); simp only [Act.put, List.setIfInBounds_toArray, List.set_cons_zero, List.set_cons_succ]; refine hK _ ?_; clear hK K)
                | (refine wpSeq_skip (by rfl) ⟨_, h6⟩ (fun K hK => ?_); simp only [Act.put, List.setIfInBounds_toArray, List.set_cons_zero, List.set_cons_succ]; refine hK _ ?_; clear hK K))
              refine wpSeq_end ?_
              go_wp2_with fail
              go_ret
              exact ⟨rfl, h6.right.right⟩
end Go.Proofs.Ytojgdejofpafkaa
