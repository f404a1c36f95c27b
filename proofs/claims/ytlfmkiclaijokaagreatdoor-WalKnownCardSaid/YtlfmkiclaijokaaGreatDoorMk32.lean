/- Stays, On. -/
import Derived.Test.YtlfmkiclaijokaaGreatDoorMk31
import Derived.Test.YtlfmkiclaijokaaGreatDoorMk23
namespace Go.Proofs.YtlfmkiclaijokaaGreatDoor
open Go.RowKit
set_option linter.unusedVariables false

theorem rem_one (q : Int) (n : Nat) : (0 ≤ q.tmod ((n : Int) + 1) → q.tmod ((n : Int) + 1) = q % ((n : Int) + 1)) ∧ (q.tmod ((n : Int) + 1) < 0 → q.tmod ((n : Int) + 1) + n + 1 = q % ((n : Int) + 1)) ∧ -((n : Int) + 1) < q.tmod ((n : Int) + 1) ∧ q.tmod ((n : Int) + 1) < (n : Int) + 1 := by
  obtain ⟨h1, h2, h3⟩ := rem_twice q (n + 1) (by omega)
  rw [show ((n + 1 : Nat) : Int) = (n : Int) + 1 from rfl] at h1 h2 h3
  rw [Int.tmod_eq_emod_of_nonneg (by omega), Int.add_emod_right] at h3
  refine ⟨fun h => ?_, fun h => ?_, h1, h2⟩
  · rw [← h3, Int.emod_eq_of_lt h h2]
  · rw [← h3, ← Int.add_emod_right, Int.emod_eq_of_lt (by omega) (by omega)]
    omega

theorem stays_le (keep : List Int) (i n : Nat) : staysN keep i n ≤ n := by
  unfold staysN
  split
  · omega
  · next q _ =>
    have h1 := Int.emod_nonneg q (show (n : Int) + 1 ≠ 0 by omega)
    have h2 := Int.emod_lt_of_pos q (show (0 : Int) < (n : Int) + 1 by omega)
    omega

section
variable (u w : World) (F : HProp) (p : Nat) (d : DiskP) (keep : List Int)

set_option maxHeartbeats 2000000 in
theorem stays_any (a : Option Addr) (c : Nat) (i n : Nat) (hk : IntsAt w (.slice a keep.length c) keep) (hkl : keep.length ≤ 1000000000) (hr : ∀ x ∈ keep, -9223372036854775808 ≤ x ∧ x ≤ 9223372036854775807) (hn : n ≤ 1000000000) :
    Calls Tryz.prog 108 #[.slice a keep.length c, .int .i64 i, .int .i64 n] w fun e w' => e = .returned (.int .i64 (staysN keep i n : Nat)) ∧ w' = w := by
  by_cases hi : i < keep.length
  · obtain ⟨q, hq⟩ : ∃ q, keep[i]? = some q := ⟨_, List.getElem?_eq_getElem hi⟩
    have hst : staysN keep i n = (q % ((n : Int) + 1)).toNat := by unfold staysN; rw [hq]
    have HST := Lib.hid hst
    obtain ⟨b, o, rfl, c0⟩ := hk.get hq
    have hqr := hr q (List.mem_of_getElem? hq)
    obtain ⟨r1, r2, r3, r4⟩ := rem_one q n
    have h5 := Int.emod_nonneg q (show (n : Int) + 1 ≠ 0 by omega)
    have H5 := Lib.hid h5
    have y1 : ¬ (keep.length : Int) ≤ i := by omega
    have y2 : (i : Int) < keep.length := by omega
    have y3 : ¬ ((n : Int) + 1 = 0) := by omega
    have e1 : IntKind.i64.wrap ((n : Int) + 1) = (n : Int) + 1 := IntWalk.i64_in _ (by omega)
    have R1 := Lib.hid r1
    have R2 := Lib.hid r2
    clear hst hr hq hk r1 r2 h5
    generalize ht : q.tmod ((n : Int) + 1) = t at R1 R2 r3 r4
    have HT := Lib.hid ht
    by_cases h0 : t < 0
    · have e2 := R2.out h0
      have E := Lib.hid e2
      have x1 : IntKind.i64.wrap t = t := IntWalk.i64_in _ (by omega)
      have x2 : IntKind.i64.wrap (t + n) = t + n := IntWalk.i64_in _ (by omega)
      have x3 : IntKind.i64.wrap (t + n + 1) = t + n + 1 := IntWalk.i64_in _ (by omega)
      clear e2
      go_enter Tryz.func108, Tryz.ntmps108
      go_wp2_with fail
      go_ret
      refine ⟨?_, rfl⟩
      rw [HST.out, ← E.out]
      have := H5.out
      rw [← E.out] at this
      exact congrArg (fun x => Ending.returned (Value.int .i64 x)) (by omega)
    · have e2 := R1.out (by omega)
      have E := Lib.hid e2
      have x1 : IntKind.i64.wrap t = t := IntWalk.i64_in _ (by omega)
      clear e2
      go_enter Tryz.func108, Tryz.ntmps108
      go_wp2_with fail
      go_ret
      refine ⟨?_, rfl⟩
      rw [HST.out, ← E.out]
      exact congrArg (fun x => Ending.returned (Value.int .i64 x)) (by omega)
  · have hst : staysN keep i n = 0 := by unfold staysN; rw [List.getElem?_eq_none (by omega)]
    have HST := Lib.hid hst
    have y1 : (keep.length : Int) ≤ i := by omega
    clear hst hk
    go_enter Tryz.func108, Tryz.ntmps108
    go_wp2_with fail
    go_ret
    exact ⟨by rw [HST.out]; rfl, rfl⟩

theorem okR_on {d : DiskP} (h : OkR d) (keep : List Int) (ho : d.off = true) : OkR (onD d keep) := by
  refine ⟨okD_on h.1 keep, ?_⟩
  unfold onD
  rw [if_pos ho]
  exact born_on keep _ _

theorem onFiles_snoc (keep : List Int) (fs : List FileP) (k : Nat) (f : FileP) (h : fs[k]? = some f) : onFiles keep 0 (fs.take (k + 1)) = onFiles keep 0 (fs.take k) ++ (if (onFile keep k f).born then [onFile keep k f] else []) := by
  obtain ⟨hk, rfl⟩ := List.getElem?_eq_some_iff.1 h
  rw [List.take_succ_eq_append_getElem hk, onFiles_append, List.length_take, Nat.min_eq_left (by omega), Nat.zero_add]

set_option maxRecDepth 100000 in
set_option maxHeartbeats 8000000 in
theorem ron_any (a : Option Addr) (c : Nat) (hk : ∀ w', Sat u w' F → IntsAt w' (.slice a keep.length c) keep) (hkl : keep.length ≤ 1000000000) (hr : ∀ x ∈ keep, -9223372036854775808 ≤ x ∧ x ≤ 9223372036854775807) (hs : Sat u w (isM p d * F)) :
    Calls Tryz.prog 61 #[.pointer (some ⟨p, 0, none⟩), .slice a keep.length c] w
      fun e w' => e = .returned (.tuple #[]) ∧ Sat u w' (isM p (onD d keep) * F) := by
  obtain ⟨i0, hi, hz0, hz1, hz2⟩ := info_parts info_kept
  obtain ⟨ok, v, L, hL, h2⟩ := isM_iff.1 hs
  have c3 := h2.cell 3
  have f3 := h2.free 3
  have h3 := h2.setCell 3 (.int .i64 (-1))
  have c4 := h3.cell 4
  have okd : OkR { d with set := -1 } := ⟨⟨ok.1.sorted, by show (-1 : Int) ≤ -1; omega, by show (-1 : Int) ≤ _; omega, ok.1.quota0, ok.1.quota1, ok.1.steps0, ok.1.steps1, ok.1.size, ok.1.used, ok.1.many⟩, ok.2⟩
  have h4 : Sat u (w.setCell ⟨p, 3, none⟩ (.int .i64 (-1))) (isM p { d with set := -1 } * F) := isM_iff.2 ⟨okd, v, L, hL, h3⟩
  have HK := Lib.hid hk
  have HR := Lib.hid hr
  have OK := Lib.hid ok
  clear hs h2 h3 okd ok hk hr hL
  by_cases ho : d.off = true
  case neg =>
    have ho2 : d.off = false := by simpa using ho
    have hR : onD d keep = { d with set := -1 } := by unfold onD; rw [if_neg ho]
    simp only [headR, ho2, List.getElem?_toArray, List.getElem?_cons_zero, List.getElem?_cons_succ, List.setIfInBounds_toArray, List.set_cons_zero, List.set_cons_succ] at c3 c4
    rw [hR]
    have H := Lib.hid h4
    clear h4 hR ho ho2
    go_enter Tryz.func61, Tryz.ntmps61
    go_wp2_with fail
    refine bodyPost_ret (results_none rfl _ _ _) rfl ?_
    exact ⟨rfl, H.out⟩
  have hR : onD d keep = { d with files := onFiles keep 0 d.files, set := -1, off := false } := by unfold onD; rw [if_pos ho]
  have HON := Lib.hid (okR_on OK.out keep ho)
  have HRR := Lib.hid hR
  simp only [headR, ho, List.getElem?_toArray, List.getElem?_cons_zero, List.getElem?_cons_succ, List.setIfInBounds_toArray, List.set_cons_zero, List.set_cons_succ] at c3 c4
  clear hR ho
  go_enter Tryz.func61, Tryz.ntmps61
  go_upto_region 3 with fail
  generalize w.setCell ⟨p, 3, none⟩ (.int .i64 (-1)) = w1 at h4 ⊢
  clear c3 c4 f3
  go_wp2_with fail
  refine (rfiles_any u w1 F p _ h4).mono ?_
  rintro e w2 ⟨af, cf, rfl, h5⟩
  dsimp only at h5 ⊢
  clear h4
  obtain ⟨S, hS, h6⟩ := isMFs_iff.1 h5
  have hSl : S.length = d.files.length := by rw [← hS, List.length_map]
  have HS := Lib.hid hS
  have hmany : d.files.length ≤ 1000000 := OK.out.1.many
  have h30 : Sat u w2 (ownRow 134 4 (.slice none 0 0) 0 [] * (ownRow 130 2 (.slice af S.length cf) S.length (S.flatMap cellsM) * (roM S * (isM p { d with set := -1 } * F)))) := by
    rw [hSl]
    rw [hSl] at h6
    exact Sat.row_nil h6
  rw [← hSl]
  have HSL := Lib.hid hSl
  have hsm : S.length ≤ 1000000 := by omega
  clear hS h5 h6 hSl
  go_wp2_with fail
  go_loopw [4, 6] (fun t4 t6 wr => ∃ (k : Nat) (a' : Option Addr) (c' : Nat), k ≤ S.length ∧ t6 = .int .i64 k ∧ t4 = .slice a' (onFiles keep 0 (d.files.take k)).length c' ∧
    Sat u wr (ownRow 134 4 (.slice a' (onFiles keep 0 (d.files.take k)).length c') (onFiles keep 0 (d.files.take k)).length ((onFiles keep 0 (d.files.take k)).flatMap cellsK) * (ownRow 130 2 (.slice af S.length cf) S.length (S.flatMap cellsM) * (roM S * (isM p { d with set := -1 } * F))))) (fun _ t _ => S.length - (intOf t).toNat)
  case atStart => exact ⟨0, none, 0, Nat.zero_le _, rfl, rfl, h30⟩
  case round =>
    clear h30
    obtain ⟨k, a', c', hk, rfl, rfl, h7⟩ := hrel
    by_cases hlt : k < S.length
    · obtain ⟨y, hy⟩ : ∃ y, S[k]? = some y := ⟨S[k]'(by omega), List.getElem?_eq_getElem _⟩
      have hf : d.files[k]? = some y.1 := by rw [← HS.out, List.getElem?_map, hy]; rfl
      have hgf : getF d.files y.1.name = some y.1 := getF_mem OK.out.1.sorted.nodup (List.mem_of_getElem? hf)
      obtain ⟨g, rfl, hcm⟩ := Sat.fileM h7.right hy
      obtain ⟨d0, _⟩ := hcm wr h7.right
      have hsz := OK.out.1.size y.1 (List.mem_of_getElem? hf)
      have hso := onFiles_snoc keep d.files k y.1 hf
      have hml := by have hsl1 := HSL.out; exact Nat.le_trans (len_on keep (d.files.take k) 0) (by rw [List.length_take]; omega : (d.files.take k).length ≤ 1000000)
      have HLT := Lib.hid hlt
      have HGF := Lib.hid hgf
      have HSO := Lib.hid hso
      have hsl1 := HSL.out
      have y1 : (k : Int) < S.length := by omega
      clear hsl1 hy hf hgf hcm hso
      generalize hM : onFiles keep 0 (d.files.take k) = M at h7 HSO hml ⊢
      clear hM
      go_wp2_with fail
      refine (rlook_any u wr _ p { d with set := -1 } y.1.name (h7.eq (show _ = isM p _ * (ownRow 134 4 (.slice a' M.length c') M.length (M.flatMap cellsK) * (ownRow 130 2 (.slice (some ⟨g, 0, none⟩) S.length cf) S.length (S.flatMap cellsM) * (roM S * F))) by ac_rfl))).mono ?_
      rintro e w3 ⟨rfl, h8⟩
      have hfo : fileOf { d with set := -1 } y.1.name = y.1 := by unfold fileOf; dsimp only; rw [HGF.out]; rfl
      rw [hfo]
      generalize y.1 = f at HGF HSO hsz ⊢
      dsimp only [keptV]
      clear hfo d0 h7
      go_upto_region 8 with fail
      have h9 := h8.alloc (keptO f)
      simp only [keptO] at h9
      generalize hq : w3.heap.size = q at h9 ⊢
      generalize w3.alloc (.cells #[.string (str f.name), .string (str f.dry), .string (str f.wet), .bool f.born] 134) = w4 at h9 ⊢
      clear hq h8
      have hwl : f.wet.length ≤ 8388608 := by
        have : f.dry.length + f.wet.length = f.size := rfl
        omega
      have hdl : f.dry.length ≤ 8388608 := by
        have : f.dry.length + f.wet.length = f.size := rfl
        omega
      refine wp_region_seq [(0, true), (1, true), (2, true), (3, true), (4, true), (5, true), (6, true), (7, true), (8, true), (9, false), (10, true), (11, true), (12, true)] (fun wS => Sat u wS (own q (.cells #[.string (str f.name), .string (str f.dry), .string (str f.wet), .bool f.born] 134 (0, 0)) * (isM p { d with set := -1 } * (ownRow 134 4 (.slice a' M.length c') M.length (M.flatMap cellsK) * (ownRow 130 2 (.slice (some ⟨g, 0, none⟩) S.length cf) S.length (S.flatMap cellsM) * (roM S * F)))))) (by kernel_rfl) (by kernel_rfl) (fun _ _ _ _ _ h => h) ?_
      simp only [pickOps, Array.getD_eq_getD_getElem?, List.getElem?_toArray, List.getElem?_cons_succ, List.getElem?_cons_zero, Option.getD_some]
      have h10 : Sat u w4.drew (own q (.cells #[.string (str f.name), .string (str f.dry), .string (str f.wet), .bool f.born] 134 (0, 0)) * (isM p { d with set := -1 } * (ownRow 134 4 (.slice a' M.length c') M.length (M.flatMap cellsK) * (ownRow 130 2 (.slice (some ⟨g, 0, none⟩) S.length cf) S.length (S.flatMap cellsM) * (roM S * F))))) := h9.drew
      repeat (first
        | (refine wpSeq_run (by rfl) h10 (fun K hK => ⟨?_, ?_, ?_⟩); rotate_left; (· (intro wS hSw; have q1 := hSw.cell 1; have q2 := hSw.cell 2; go_simp <;> with_reducible rfl)); simp only [Act.put, List.setIfInBounds_toArray, List.set_cons_zero, List.set_cons_succ]; refine hK _ ?_; clear hK K)
        | (refine wpSeq_skip (by rfl) h10 (fun K hK => ?_); simp only [Act.put, List.setIfInBounds_toArray, List.set_cons_zero, List.set_cons_succ]; refine hK _ ?_; clear hK K))
      refine wpSeq_act (by rfl) (fun K hK => ?_)
      go_simp
      refine (stays_any _ keep a c k f.wet.length (HK.out _ h10.right.right.right.right.right) hkl HR.out (by omega)).mono ?_
      rintro e w5 ⟨rfl, rfl⟩
      try dsimp only
      try simp only [Act.put, List.setIfInBounds_toArray, List.set_cons_zero, List.set_cons_succ]
      refine hK _ _ (_) ((fun _ h => h)) h10 ?_
      clear hK K
      have hsl := stays_le keep k f.wet.length
      generalize hsn : staysN keep k f.wet.length = s at hsl ⊢
      have HSN := Lib.hid hsn
      have e2 : (str f.wet).extract 0 s = str (f.wet.take s) := str_take _ _
      have e1 : str f.dry ++ str (f.wet.take s) = str (f.dry ++ f.wet.take s) := (str_append _ _).symm
      have y2 : (s : Int) ≤ f.wet.length := by omega
      have hts : (f.wet.take s).length = s := by rw [List.length_take]; omega
      generalize hz : f.wet.take s = Z at e1 e2 hts
      have HZ := Lib.hid hz
      have y3 : ¬ 9223372036854775807 < f.dry.length + Z.length := by omega
      clear hsn hz hts
      repeat (first
        | (refine wpSeq_run (by rfl) h10 (fun K hK => ⟨?_, ?_, ?_⟩); rotate_left; (· (intro wS hSw; have q1 := hSw.cell 1; go_simp <;> with_reducible rfl)); simp only [Act.put, List.setIfInBounds_toArray, List.set_cons_zero, List.set_cons_succ]; refine hK _ ?_; clear hK K)
        | (refine wpSeq_skip (by rfl) h10 (fun K hK => ?_); simp only [Act.put, List.setIfInBounds_toArray, List.set_cons_zero, List.set_cons_succ]; refine hK _ ?_; clear hK K))
      refine wpSeq_end ?_
      have h11 := h10
      generalize w4.drew = w5 at h11 ⊢
      clear h9 h10 e1 e2 y3
      have hon : onFile keep k f = { f with dry := f.dry ++ Z, wet := [], born := f.born || decide (0 < (f.dry ++ Z).length) } := by
        unfold onFile
        rw [HSN.out, HZ.out]
      have HOn := Lib.hid hon
      clear hon
      generalize f.dry ++ Z = X at HOn ⊢
      have c0 := h11.cell 0
      have c3 := h11.cell 3
      rcases hb : f.born with _ | _
      · rw [hb] at c3
        by_cases hX : X = []
        · have HOF : (onFile keep k f).born = false := by rw [HOn.out, hb, hX]; rfl
          have e3 : (str X).toList.isEmpty = true := by rw [str_toList, hX]; rfl
          clear hX hb
          have h12 : Sat u w5 (ownRow 134 4 (.slice a' M.length c') M.length (M.flatMap cellsK) * (ownRow 130 2 (.slice (some ⟨g, 0, none⟩) S.length cf) S.length (S.flatMap cellsM) * (roM S * (isM p { d with set := -1 } * F)))) := h11.right.eq (by ac_rfl)
          have HO2 := Lib.hid HOF
          clear HOF
          go_wp2_with fail
          go_roundw
          case rel =>
            refine ⟨k + 1, a', c', HLT.out, by go_num, ?_, ?_⟩
            · rw [HSO.out, HO2.out, if_neg (by simp), List.append_nil]
            · rw [HSO.out, HO2.out, if_neg (by simp), List.append_nil]
              exact h12
          case measure => have hl := HLT.out; simp [intOf]; omega
        · have HOF : onFile keep k f = ⟨f.name, X, [], true⟩ := by
            rw [HOn.out, hb]
            have : 0 < X.length := List.length_pos_iff.2 hX
            simp [this]
          have e3 : (str X).toList.isEmpty = false := by rw [str_toList]; cases X with | nil => exact absurd rfl hX | cons _ _ => rfl
          clear hX hb
          have hof : onFile keep k f = ⟨f.name, X, [], true⟩ := HOF
          have HO2 := Lib.hid hof
          have h12 : Sat u w5 (ownRow 134 4 (.slice a' M.length c') M.length (M.flatMap cellsK) * (ownRow 130 2 (.slice (some ⟨g, 0, none⟩) S.length cf) S.length (S.flatMap cellsM) * (roM S * (isM p { d with set := -1 } * F)))) := h11.right.eq (by ac_rfl)
          have h13 := h12.alloc (.cells #[.string (str f.name), .string (str X), .string ⟨#[]⟩, .bool true] 134)
          have hr := kept_row ⟨f.name, X, [], true⟩ h13
          clear hof h12 HOF
          go_wp2_with (at_builtin; refine wpList_append_sl rfl _ _ 119 rfl i0 _ Tryz.underlying119 hi hz0 hz1 hz2 rfl (by decide) rfl rfl h13.right hr rfl (cellsK_one _) (by omega) ?_; intro a6 c6 w6 h14 hx; clear hx)
          have h15 : Sat u w6 (ownRow 134 4 (.slice a6 (M.length + 1) c6) (M.length + 1) (M.flatMap cellsK ++ cellsK ⟨f.name, X, [], true⟩) * (ownRow 130 2 (.slice (some ⟨g, 0, none⟩) S.length cf) S.length (S.flatMap cellsM) * (roM S * (isM p { d with set := -1 } * F)))) := h14
          go_roundw
          case rel =>
            refine ⟨k + 1, a6, c6, HLT.out, by go_num, ?_, ?_⟩
            · rw [HSO.out, HO2.out, if_pos rfl, List.length_append]; rfl
            · rw [HSO.out, HO2.out, if_pos rfl, List.length_append, List.flatMap_append]
              exact h15.eq (by simp)
          case measure => have hl := HLT.out; simp [intOf]; omega
      · rw [hb] at c3
        have HOF : onFile keep k f = ⟨f.name, X, [], true⟩ := by rw [HOn.out, hb]; rfl
        clear hb
        have hof : onFile keep k f = ⟨f.name, X, [], true⟩ := HOF
        have HO2 := Lib.hid hof
        have h12 : Sat u w5 (ownRow 134 4 (.slice a' M.length c') M.length (M.flatMap cellsK) * (ownRow 130 2 (.slice (some ⟨g, 0, none⟩) S.length cf) S.length (S.flatMap cellsM) * (roM S * (isM p { d with set := -1 } * F)))) := h11.right.eq (by ac_rfl)
        have h13 := h12.alloc (.cells #[.string (str f.name), .string (str X), .string ⟨#[]⟩, .bool true] 134)
        have hr := kept_row ⟨f.name, X, [], true⟩ h13
        clear hof h12 HOF
        go_wp2_with (at_builtin; refine wpList_append_sl rfl _ _ 119 rfl i0 _ Tryz.underlying119 hi hz0 hz1 hz2 rfl (by decide) rfl rfl h13.right hr rfl (cellsK_one _) (by omega) ?_; intro a6 c6 w6 h14 hx; clear hx)
        have h15 : Sat u w6 (ownRow 134 4 (.slice a6 (M.length + 1) c6) (M.length + 1) (M.flatMap cellsK ++ cellsK ⟨f.name, X, [], true⟩) * (ownRow 130 2 (.slice (some ⟨g, 0, none⟩) S.length cf) S.length (S.flatMap cellsM) * (roM S * (isM p { d with set := -1 } * F)))) := h14
        go_roundw
        case rel =>
          refine ⟨k + 1, a6, c6, HLT.out, by go_num, ?_, ?_⟩
          · rw [HSO.out, HO2.out, if_pos rfl, List.length_append]; rfl
          · rw [HSO.out, HO2.out, if_pos rfl, List.length_append, List.flatMap_append]
            exact h15.eq (by simp)
        case measure => have hl := HLT.out; simp [intOf]; omega
    · have e : k = S.length := by omega
      subst e
      have ht : d.files.take S.length = d.files := List.take_of_length_le (by rw [HSL.out]; exact Nat.le_refl _)
      rw [ht] at h7 ⊢
      have h8 : Sat u wr (isM p { d with set := -1 } * (ownK (.slice a' (onFiles keep 0 d.files).length c') (onFiles keep 0 d.files) * (ownRow 130 2 (.slice af S.length cf) S.length (S.flatMap cellsM) * (roM S * F)))) := h7.eq (by unfold ownK; ac_rfl)
      obtain ⟨_, v2, L2, _, h9⟩ := isM_iff.1 h8
      have c0 := h9.cell 0
      have f0 := h9.free 0
      have h10 := h9.setCell 0 (.slice a' (onFiles keep 0 d.files).length c')
      have c4 := h10.cell 4
      have f4 := h10.free 4
      have h11 := h10.setCell 4 (.bool false)
      have H := Lib.hid h11
      clear h7 h8 h9 h10 h11 ht
      go_wp2_with fail
      go_end0
      refine ⟨rfl, ?_⟩
      have hr := HRR.out
      have ok := HON.out
      rw [hr] at ok ⊢
      have h12 := H.out
      have h13 : Sat u _ (isM p { d with files := onFiles keep 0 d.files, set := -1, off := false } * _) := isM_iff.2 ⟨ok, .slice a' (onFiles keep 0 d.files).length c', onFiles keep 0 d.files, List.Perm.refl _, h12.eq (show _ = own p _ * (ownK (.slice a' (onFiles keep 0 d.files).length c') (onFiles keep 0 d.files) * (ownK v2 L2 * (ownRow 130 2 (.slice af S.length cf) S.length (S.flatMap cellsM) * (roM S * F)))) by ac_rfl)⟩
      exact (h13.eq (show _ = (ownK v2 L2 * (ownRow 130 2 (.slice af S.length cf) S.length (S.flatMap cellsM) * roM S)) * (isM p _ * F) by ac_rfl)).right
end
end Go.Proofs.YtlfmkiclaijokaaGreatDoor
