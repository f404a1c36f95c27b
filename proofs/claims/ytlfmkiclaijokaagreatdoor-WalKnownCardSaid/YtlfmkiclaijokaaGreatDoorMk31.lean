/- Remove, Read, Append. Files. -/
import Derived.Test.YtlfmkiclaijokaaGreatDoorMk30
import Derived.Test.YtlfmkiclaijokaaGreatDoorMk15
namespace Go.Proofs.YtlfmkiclaijokaaGreatDoor
open Go.RowKit
set_option linter.unusedVariables false

theorem removeD_of {d : DiskP} {n : Bs} {f : FileP} (hb : barsD d [n] = 0) (hf : getF d.files n = some f) : removeD d n = if stepOk d then (0, { stepD d with files := delF n d.files }) else (40, stepD d) := by
  unfold removeD hasN
  rw [if_neg (by simp [hb]), hf]
  simp

theorem removeD_bars (d : DiskP) (n : Bs) (h : barsM d n n true ≠ 0) : removeD d n = (barsM d n n true, d) ∧ readD d n = ([], barsM d n n true) := by
  unfold barsM at h ⊢
  unfold removeD readD hasN
  rw [barsD_twice] at h ⊢
  by_cases hb : barsD d [n] = 0
  · rw [if_neg (by simp [hb])] at h ⊢
    rcases hf : getF d.files n with _ | f
    · rw [if_neg (by simp [hb]), if_neg (by simp [hb])]
      simp [hb]
    · unfold hasN at h
      rw [hf] at h
      simp at h
  · rw [if_pos hb, if_pos hb, if_pos hb]
    simp

section
variable (u w : World) (F : HProp) (p : Nat) (d : DiskP)

theorem isM_quota {u w : World} {F : HProp} {p : Nat} {d : DiskP} (h : Sat u w (isM p d * F)) : w.cell? ⟨p, 1, none⟩ = some (.int .i64 d.quota) := by
  obtain ⟨_, v, L, _, h2⟩ := isM_iff.1 h
  exact h2.cell 1

set_option maxHeartbeats 2000000 in
theorem rremove_any (n : Bs) (hl : n.length ≤ 1000000000) (hs : Sat u w (isM p d * F)) :
    Calls Tryz.prog 98 #[.pointer (some ⟨p, 0, none⟩), .string (str n)] w
      fun e w' => e = .returned (.int .i64 (removeD d n).1) ∧ Sat u w' (isM p (removeD d n).2 * F) := by
  have HB := Lib.hid (barsM_true d n n)
  have HX := Lib.hid (removeD_bars d n)
  go_enter Tryz.func98, Tryz.ntmps98
  go_wp2_with fail
  refine (rbars_any u w F p d n n true hl hl hs).mono ?_
  rintro e w1 ⟨rfl, h1⟩
  dsimp only
  clear hs
  generalize hb : barsM d n n true = b at h1 HB HX ⊢
  have HBB := Lib.hid hb
  clear hb
  by_cases h0 : b = 0
  · subst h0
    rcases HB.out with ⟨hx, _⟩ | ⟨_, hb, f, hf⟩
    · exact absurd rfl hx
    rw [barsD_twice] at hb
    have HF := Lib.hid hf
    have HR := Lib.hid (removeD_of hb hf)
    clear hb hf
    go_wp2_with fail
    refine (rstep_any u w1 F p d h1).mono ?_
    rintro e w2 ⟨rfl, h2⟩
    dsimp only
    have OKD := Lib.hid (isM_iff.1 h1).1
    clear h1
    rcases hst : stepOk d with _ | _
    · have E := Lib.hid (show removeD d n = (40, stepD d) by rw [HR.out, hst]; rfl)
      have H := Lib.hid h2
      clear hst h2
      go_wp2_with fail
      go_ret
      rw [E.out]
      exact ⟨rfl, H.out⟩
    have E := Lib.hid (show removeD d n = (0, { stepD d with files := delF n d.files }) by rw [HR.out, hst]; rfl)
    obtain ⟨ok, v, L, hL, h4⟩ := isM_iff.1 h2
    rw [stepD_files] at hL
    have hlb : L.length ≤ 1000000 := by rw [hL.length_eq]; exact OKD.out.1.many
    have ok2 : OkR { stepD d with files := delF n d.files } := by
      have := okD_del ok.1 (n := n) (f := f) (by rw [stepD_files]; exact HF.out)
      rw [stepD_files] at this
      exact ⟨this, born_del OKD.out.2 n⟩
    have OK := Lib.hid ok2
    have HL := Lib.hid hL
    clear hst h2 ok ok2 hL
    go_wp2_with fail
    refine (rothers_any u w2 _ p v (stepD d) L n hlb h4).mono ?_
    rintro e w4 ⟨a1, c1, rfl, h5⟩
    dsimp only
    clear h4
    have h6 := h5.s2
    have c0 := h6.cell 0
    have f0 := h6.free 0
    have h7 := h6.setCell 0 (.slice a1 (delF n L).length c1)
    have H := Lib.hid (isM_iff.2 ⟨OK.out, .slice a1 (delF n L).length c1, delF n L, del_perm HL.out n, h7⟩ : Sat u _ (isM p { stepD d with files := delF n d.files } * _))
    clear h5 h6 h7
    go_wp2_with fail
    go_ret
    rw [E.out]
    exact ⟨rfl, (H.out.eq (show _ = ownK v L * (isM p _ * F) by ac_rfl)).right⟩
  · have E := Lib.hid (HX.out h0).1
    have hne : (b != 0) = true := by simpa using h0
    have H := Lib.hid h1
    clear h0 h1
    go_wp2_with fail
    go_ret
    rw [E.out]
    exact ⟨rfl, H.out⟩

/-- What Read answers: bytes that are shared. -/
def ReadM (u : World) (F : HProp) (p : Nat) (d : DiskP) (n : Bs) (e : Ending) (w' : World) : Prop :=
  ∃ a c, e = .returned (.tuple #[.slice a (readD d n).1.length c, .int .i64 (readD d n).2]) ∧ Sat u w' (roB (.slice a (readD d n).1.length c) (readD d n).1 * (isM p d * F))

set_option maxHeartbeats 2000000 in
theorem rread_any (n : Bs) (hl : n.length ≤ 1000000000) (hs : Sat u w (isM p d * F)) :
    Calls Tryz.prog 94 #[.pointer (some ⟨p, 0, none⟩), .string (str n)] w (ReadM u F p d n) := by
  have HB := Lib.hid (barsM_true d n n)
  have HX := Lib.hid (removeD_bars d n)
  have h32 : (⟨9, 34⟩ : Nat × Nat) = ⟨9, 34⟩ := rfl
  go_enter Tryz.func94, Tryz.ntmps94
  go_wp2_with fail
  refine (rbars_any u w F p d n n true hl hl hs).mono ?_
  rintro e w1 ⟨rfl, h1⟩
  dsimp only
  clear hs
  generalize hb : barsM d n n true = b at h1 HB HX ⊢
  have HBB := Lib.hid hb
  clear hb
  by_cases h0 : b = 0
  · subst h0
    rcases HB.out with ⟨hx, _⟩ | ⟨_, hb, f, hf⟩
    · exact absurd rfl hx
    rw [barsD_twice] at hb
    have hR : readD d n = (f.all, 0) := by
      unfold readD
      rw [if_neg (by simp [hb]), hf]
    have E := Lib.hid hR
    have HF := Lib.hid hf
    have hsz : f.size ≤ 8388608 := (isM_iff.1 h1).1.1.size f (getF_name hf).2
    clear hb hf hR
    go_wp2_with fail
    refine (rlook_any u w1 F p d n h1).mono ?_
    rintro e w2 ⟨rfl, h2⟩
    have hfo : fileOf d n = f := by unfold fileOf; rw [HF.out]; rfl
    rw [hfo]
    dsimp only [keptV]
    clear h1 hfo
    go_upto_region 5 with fail
    have h3 := h2.alloc (keptO f)
    simp only [keptO] at h3
    generalize hq : w2.heap.size = q at h3 ⊢
    generalize w2.alloc (.cells #[.string (str f.name), .string (str f.dry), .string (str f.wet), .bool f.born] 134) = w3 at h3 ⊢
    clear h2 hq
    have c1 := h3.cell 1
    have c2 := h3.cell 2
    have e1 : str f.dry ++ str f.wet = str f.all := (str_append _ _).symm
    have hal : f.all.length = f.size := by unfold FileP.all FileP.size; rw [List.length_append]
    have y2 : ¬ 9223372036854775807 < f.dry.length + f.wet.length := by
      have : f.dry.length + f.wet.length = f.size := rfl
      omega
    have hss : (str f.all).size ≤ 1000000000 := by rw [str_size, hal]; omega
    clear hal hsz
    go_wp2_with (refine wpList_toBytes rfl 9 34 5 _ rfl (str f.all) rfl Tryz.underlying9 Tryz.underlying34 Tryz.underlying5 h3.right hss ?_; intro a5 c5 w5 h5)
    have h6 := h5.roB_ownT
    rw [str_data, str_size] at h6
    have H := Lib.hid h6
    clear c1 c2 e1 h3 h5 h6
    go_ret2
    unfold ReadM
    rw [E.out]
    exact ⟨_, _, rfl, H.out⟩
  · have E := Lib.hid (HX.out h0).2
    have hne : (b != 0) = true := by simpa using h0
    have H := Lib.hid h1
    clear h0 h1
    go_wp2_with fail
    go_ret2
    unfold ReadM
    rw [E.out]
    exact ⟨none, 0, rfl, Sat.roB_nil H.out⟩

theorem used_bound : ∀ (fs : List FileP), (∀ f ∈ fs, f.size ≤ 8388608) → usedF fs ≤ fs.length * 8388608
  | [], _ => Nat.le_refl _
  | f :: fs, h => by
    have h1 := used_bound fs fun g hg => h g (List.mem_cons_of_mem _ hg)
    have h2 := h f (List.mem_cons_self ..)
    unfold usedF at h1 ⊢
    rw [List.map_cons, List.sum_cons, List.length_cons]
    omega

theorem fileOf_born {d : DiskP} (h : OkR d) (n : Bs) : (fileOf d n).born = false → (fileOf d n).dry = [] := by
  unfold fileOf
  rcases hg : getF d.files n with _ | f
  · intro _; rfl
  · exact h.2 f (getF_name hg).2

/-- What Append says ahead of a put. -/
theorem appE_bars {n b : Bs} (h : barsM d n n false ≠ 0) : appendD d n b = (barsM d n n false, d) := by
  unfold barsM at h ⊢
  rw [barsD_twice] at h ⊢
  by_cases hb : barsD d [n] = 0
  · rw [if_neg (by simp [hb])] at h
    simp at h
  · have he : appE d n b = barsD d [n] := by unfold appE; rw [if_pos hb]
    unfold appendD
    rw [he, if_pos hb, if_pos hb]

theorem appE_of {n b : Bs} (h : barsM d n n false = 0) : appE d n b = if (maxDisk : Int) - (fileOf d n).size < b.length then 3 else if d.quota - usedF d.files < b.length then 41 else 0 := by
  unfold barsM at h
  rw [barsD_twice] at h
  by_cases hb : barsD d [n] = 0
  · unfold appE
    rw [if_neg (by simp [hb])]
  · rw [if_pos hb] at h
    exact absurd h hb

set_option maxRecDepth 100000 in
set_option maxHeartbeats 4000000 in
theorem rappend_any (n b : Bs) (a : Option Addr) (c : Nat) (hl : n.length ≤ 1000000000) (hbl : b.length ≤ 30000000) (hk : ∀ w', Sat u w' F → BytesAt w' (.slice a b.length c) b) (hmany : d.files.length < 1000000) (hs : Sat u w (isM p d * F)) :
    Calls Tryz.prog 59 #[.pointer (some ⟨p, 0, none⟩), .string (str n), .slice a b.length c] w
      fun e w' => e = .returned (.int .i64 (appendD d n b).1) ∧ Sat u w' (isM p (appendD d n b).2 * F) := by
  have HK := Lib.hid hk
  have HB := Lib.hid (fun h => @appE_bars d n b h)
  have HO := Lib.hid (fun h => @appE_of d n b h)
  have HD := Lib.hid (show appendD d n b = if appE d n b ≠ 0 then (appE d n b, d) else (if stepOk (appPut d n b) then 0 else 40, stepD (appPut d n b)) from rfl)
  clear hk
  go_enter Tryz.func59, Tryz.ntmps59
  go_wp2_with fail
  refine (rbars_any u w F p d n n false hl hl hs).mono ?_
  rintro e w1 ⟨rfl, h1⟩
  dsimp only
  clear hs
  by_cases h0 : barsM d n n false = 0
  case neg =>
    have E := Lib.hid (HB.out h0)
    have hne : (barsM d n n false != 0) = true := by simpa using h0
    have H := Lib.hid h1
    clear h0 h1
    go_wp2_with fail
    go_ret
    rw [E.out]
    exact ⟨rfl, H.out⟩
  have E := Lib.hid (HO.out h0)
  rw [h0]
  clear h0
  go_wp2_with fail
  refine (rsize_any u w1 F p d n h1).mono ?_
  rintro e w2 ⟨rfl, hsz, h2⟩
  dsimp only
  clear h1
  have HSZ := Lib.hid hsz
  generalize hz : (fileOf d n).size = z at hsz ⊢
  have HZ := Lib.hid hz
  clear hz
  by_cases k1 : (8388608 : Int) < (z : Int) + b.length
  · have E2 := Lib.hid (show appendD d n b = (3, d) by
      have he : appE d n b = 3 := by rw [E.out, if_pos (by rw [HZ.out, show ((maxDisk : Nat) : Int) = 8388608 from rfl]; omega)]
      rw [HD.out, he]; rfl)
    have H := Lib.hid h2
    clear h2
    go_wp2_with fail
    go_ret
    rw [E2.out]
    exact ⟨rfl, H.out⟩
  have hx1 := Lib.hid (show appE d n b = if d.quota - usedF d.files < b.length then 41 else 0 by rw [E.out, if_neg (by rw [HZ.out, show ((maxDisk : Nat) : Int) = 8388608 from rfl]; omega)])
  have ok := (isM_iff.1 h2).1
  have hus := ok.1.used
  have hq1 := ok.1.quota1
  have hub : usedF d.files ≤ 8388608000000 := by
    have := used_bound d.files ok.1.size
    have := ok.1.many
    omega
  have OK := Lib.hid ok
  have q0 := isM_quota h2
  generalize hU : usedF d.files = U at hus hx1 hub
  generalize hQ : d.quota = Q at hus hq1 q0 hx1
  have HU := Lib.hid hU
  have HQ := Lib.hid hQ
  clear ok hU hQ
  go_upto_region 6 with fail
  refine wp_region_seq [(0, true), (2, true), (3, true), (5, true), (6, true), (7, true), (8, true), (1, false), (4, true), (9, true), (10, true)] (fun wS => Sat u wS (isM p d * F) ∧ wS.cell? ⟨p, 1, none⟩ = some (.int .i64 Q)) (by kernel_rfl) (by kernel_rfl) (fun _ _ _ _ _ h => h) ?_
  simp only [pickOps, Array.getD_eq_getD_getElem?, List.getElem?_toArray, List.getElem?_cons_succ, List.getElem?_cons_zero, Option.getD_some]
  repeat (first
    | (refine wpSeq_run (by rfl) ⟨h2.drew, q0⟩ (fun K hK => ⟨?_, ?_, ?_⟩); rotate_left; (· (intro wS hSw; have q1 := hSw.2; go_simp <;> with_reducible rfl)); simp only [Act.put, List.setIfInBounds_toArray, List.set_cons_zero, List.set_cons_succ]; refine hK _ ?_; clear hK K)
    | (refine wpSeq_skip (by rfl) ⟨h2.drew, q0⟩ (fun K hK => ?_); simp only [Act.put, List.setIfInBounds_toArray, List.set_cons_zero, List.set_cons_succ]; refine hK _ ?_; clear hK K))
  refine wpSeq_act (by rfl) (fun K hK => ?_)
  go_simp
  refine (rused_any u _ F p d h2.drew).mono ?_
  rintro e w3 ⟨rfl, h3⟩
  rw [HU.out]
  have q1 : w3.cell? ⟨p, 1, none⟩ = some (.int .i64 Q) := by have := isM_quota h3; rwa [HQ.out] at this
  try dsimp only
  try simp only [Act.put, List.setIfInBounds_toArray, List.set_cons_zero, List.set_cons_succ]
  refine hK _ _ (_) ((fun _ h => h)) ⟨h3, q1⟩ ?_
  clear hK K
  have e6 : IntKind.i64.wrap ((U : Int) + (b.length : Int)) = (U : Int) + (b.length : Int) := IntWalk.i64_in _ (by omega)
  repeat (first
    | (refine wpSeq_run (by rfl) ⟨h3, q1⟩ (fun K hK => ⟨?_, ?_, ?_⟩); rotate_left; (· (intro wS hSw; have q1 := hSw.2; go_simp <;> with_reducible rfl)); simp only [Act.put, List.setIfInBounds_toArray, List.set_cons_zero, List.set_cons_succ]; refine hK _ ?_; clear hK K)
    | (refine wpSeq_skip (by rfl) ⟨h3, q1⟩ (fun K hK => ?_); simp only [Act.put, List.setIfInBounds_toArray, List.set_cons_zero, List.set_cons_succ]; refine hK _ ?_; clear hK K))
  refine wpSeq_end ?_
  clear h2 q0 q1 e6
  by_cases k2 : Q < (U : Int) + b.length
  · have E2 := Lib.hid (show appendD d n b = (41, d) by
      have he : appE d n b = 41 := by rw [hx1.out, if_pos (by omega)]
      rw [HD.out, he]; rfl)
    have H := Lib.hid h3
    clear h3
    go_wp2_with fail
    go_ret
    rw [E2.out]
    exact ⟨rfl, H.out⟩
  have he : appE d n b = 0 := by rw [hx1.out, if_neg (by omega)]
  have E2 := Lib.hid (show appendD d n b = (if stepOk (appPut d n b) then 0 else 40, stepD (appPut d n b)) by rw [HD.out, if_neg (by simp [he])])
  clear he hx1 E HO HB HD
  go_wp2_with fail
  refine (rlook_any u w3 F p d n h3).mono ?_
  rintro e w4 ⟨rfl, h4⟩
  dsimp only [keptV]
  clear h3
  go_upto_region 9 with fail
  have hcv := HK.out w4 h4.right
  have h5 := h4.alloc (keptO (fileOf d n))
  simp only [keptO] at h5
  generalize hf : fileOf d n = f at h5 ⊢
  have HF := Lib.hid hf
  generalize hq : w4.heap.size = q at h5 ⊢
  generalize w4.alloc (.cells #[.string (str f.name), .string (str f.dry), .string (str f.wet), .bool f.born] 134) = w5 at h5 ⊢
  clear hq hf h4 hcv
  have cv := run_string_of (P := Tryz.prog) (HK.out w5 h5.right.right) 34 9 5 Tryz.underlying34 Tryz.underlying5 Tryz.underlying9
  have c0 := h5.cell 0
  have c1 := h5.cell 1
  have c2 := h5.cell 2
  have c3 := h5.cell 3
  have f2 := h5.free 2
  have hwl : f.wet.length ≤ 8388608 := by
    have := (fileOf_facts OK.out.1 n).2.2
    rw [HF.out] at this
    omega
  have e1 : str f.wet ++ str b = str (f.wet ++ b) := (str_append _ _).symm
  have y2 : ¬ 9223372036854775807 < f.wet.length + b.length := by omega
  have h6 := h5.setCell 2 (.string (str (f.wet ++ b)))
  go_upto_region 10 with fail
  generalize w5.setCell ⟨q, 2, none⟩ (.string (str (f.wet ++ b))) = w6 at h6 ⊢
  clear h5 c0 c1 c2 c3 f2 cv e1
  have c0 := h6.cell 0
  have c1 := h6.cell 1
  have c2 := h6.cell 2
  have c3 := h6.cell 3
  obtain ⟨okx, v, L, hL, h7⟩ := isM_iff.1 h6.s2
  have HL := Lib.hid hL
  have hlb : L.length ≤ 1000000 := by rw [hL.length_eq]; exact okx.1.many
  clear hL okx h6
  go_wp2_with fail
  refine (rchanges_any u w6 _ p v d L { f with wet := f.wet ++ b } hlb h7).mono ?_
  rintro e w7 ⟨rfl, v', h8⟩
  dsimp only
  have ep : appPut d n b = { d with files := putF { f with wet := f.wet ++ b } d.files } := by unfold appPut; rw [HF.out]
  obtain ⟨g1, g2, g3⟩ := fileOf_facts OK.out.1 n
  have g4 := fileOf_born OK.out n
  have hz := HZ.out
  rw [HF.out] at g1 g2 g3 g4 hz
  have hsz2 : ({ f with wet := f.wet ++ b } : FileP).size = z + b.length := by
    show f.dry.length + (f.wet ++ b).length = z + b.length
    have : f.dry.length + f.wet.length = z := hz
    rw [List.length_append]
    omega
  have okp : OkR (appPut d n b) := by
    rw [ep]
    refine ⟨okD_put OK.out.1 { f with wet := f.wet ++ b } (by rw [hsz2]; omega) ?_ hmany, born_put OK.out.2 g4⟩
    show (usedF d.files : Int) + ({ f with wet := f.wet ++ b } : FileP).size ≤ d.quota + sizeO (getF d.files f.name)
    rw [hsz2, g1, g2, HU.out, HQ.out]
    omega
  rw [ep] at okp
  have h9 : Sat u w7 (isM p (appPut d n b) * _) := ep ▸ isM_iff.2 ⟨okp, v', _, change_perm HL.out OK.out.1.sorted { f with wet := f.wet ++ b }, h8⟩
  have h10 := h9.s2.right
  clear h7 h8 h9 c0 c1 c2 c3 ep g1 g2 g3 g4 hz hsz2 okp
  go_wp2_with fail
  refine (rstep_any u w7 F p _ h10).mono ?_
  rintro e w8 ⟨rfl, h11⟩
  dsimp only
  have H := Lib.hid h11
  clear h10 h11
  rcases hst : stepOk (appPut d n b) with _ | _
  · have E3 := Lib.hid (show appendD d n b = (40, stepD (appPut d n b)) by rw [E2.out, hst]; rfl)
    clear hst
    go_wp2_with fail
    go_ret
    rw [E3.out]
    exact ⟨rfl, H.out⟩
  · have E3 := Lib.hid (show appendD d n b = (0, stepD (appPut d n b)) by rw [E2.out, hst]; rfl)
    clear hst
    go_wp2_with fail
    go_ret
    rw [E3.out]
    exact ⟨rfl, H.out⟩
end
end Go.Proofs.YtlfmkiclaijokaaGreatDoor

namespace Go.Proofs.YtlfmkiclaijokaaGreatDoor
open Go.RowKit
set_option linter.unusedVariables false

/-- A file as it is told: its bytes are a shared row. -/
abbrev FileM : Type := FileP × Value
def cellsM (x : FileM) : List Value := [.string (str x.1.name), x.2]
theorem cellsM_len (x : FileM) : (cellsM x).length = 2 := rfl
def roM : List FileM → HProp
  | [] => fact True
  | x :: L => roB x.2 x.1.all * roM L

theorem roM_append : ∀ (A B : List FileM), roM (A ++ B) = roM A * roM B
  | [], B => by
    show roM B = fact True * roM B
    funext r
    exact propext (by rw [show (fact True * roM B) r ↔ True ∧ roM B r from star_fact r]; simp)
  | x :: A, B => by
    show roB x.2 x.1.all * roM (A ++ B) = roB x.2 x.1.all * roM A * roM B
    rw [roM_append A B, star_assoc]

/-- The row of files at v. -/
def isMFs (v : Value) (fs : List FileP) : HProp := ex fun L : List FileM => fact (L.map (·.1) = fs) * (ownRow 130 2 v L.length (L.flatMap cellsM) * roM L)

section
variable {u w : World} {F : HProp}
theorem isMFs_iff {v : Value} {fs : List FileP} : Sat u w (isMFs v fs * F) ↔ ∃ L : List FileM, L.map (·.1) = fs ∧ Sat u w (ownRow 130 2 v L.length (L.flatMap cellsM) * (roM L * F)) := by
  unfold isMFs
  constructor
  · intro h
    obtain ⟨L, hL⟩ := Sat.ex_iff.1 h
    obtain ⟨h1, h2⟩ := Sat.fact_iff.1 hL.as
    exact ⟨L, h1, h2.as⟩
  · rintro ⟨L, h1, h2⟩
    exact Sat.ex_iff.2 ⟨L, (Sat.fact_iff.2 ⟨h1, h2.sa⟩).sa⟩

theorem roM_get : ∀ {F : HProp} {L : List FileM} {k : Nat} {x : FileM}, Sat u w (roM L * F) → L[k]? = some x → BytesAt w x.2 x.1.all
  | _, [], _, _, _, hx => by simp at hx
  | _, y :: L, 0, x, h, hx => by
    cases hx
    exact (Sat.as h).roB_at
  | F, y :: L, k + 1, x, h, hx => by
    have h1 : Sat u w (roM L * (roB y.2 y.1.all * F)) := (Sat.as h).s2
    exact roM_get h1 hx

/-- The cells of one. -/
theorem Sat.fileM {a : Option Addr} {m c : Nat} {L : List FileM} {k : Nat} {x : FileM} (h : Sat u w (ownRow 130 2 (.slice a m c) L.length (L.flatMap cellsM) * F)) (hx : L[k]? = some x) :
    ∃ g, a = some ⟨g, 0, none⟩ ∧ ∀ w', Sat u w' (ownRow 130 2 (.slice a m c) L.length (L.flatMap cellsM) * F) → w'.cell? ⟨g, k * 2, none⟩ = some (.string (str x.1.name)) ∧ w'.cell? ⟨g, k * 2 + 1, none⟩ = some x.2 := by
  obtain ⟨g, e, hc⟩ := Sat.rowc_at cellsM 2 cellsM_len h hx
  exact ⟨g, e, fun w' h' => ⟨hc w' h' 0 (by decide), hc w' h' 1 (by decide)⟩⟩
end

theorem info_fileM : (Tryz.prog.info? 130).map (fun i => (i.zero, i.size, i.bytes)) = some (some (.agg #[.string ⟨#[]⟩, .slice none 0 0]), 2, 40) := by kernel_rfl

theorem BytesAt.len' {w : World} {v : Value} {xs : List UInt8} (h : BytesAt w v xs) : ∃ a c, v = .slice a xs.length c ∧ xs.length ≤ c ∧ c ≤ maxLen := by
  rcases h with ⟨rfl, hl, _⟩ | ⟨a, c, h1, h2, h3, _⟩
  · rw [hl]; exact ⟨none, 0, rfl, Nat.le_refl _, Nat.zero_le _⟩
  · exact ⟨_, c, h1, h2, h3⟩

theorem flatM_take (S : List FileM) (k : Nat) : (S.flatMap cellsM).take (k * 2) = (S.take k).flatMap cellsM := by
  induction S generalizing k with
  | nil => simp
  | cons x S ih =>
    cases k with
    | zero => simp
    | succ k =>
      rw [List.flatMap_cons, List.take_succ_cons, List.flatMap_cons, ← ih k, List.take_append]
      have : (cellsM x).length = 2 := rfl
      rw [this, List.take_of_length_le (by rw [this]; omega), show (k + 1) * 2 - 2 = k * 2 from by omega]

theorem flatM_drop (S : List FileM) (k : Nat) : (S.flatMap cellsM).drop (k * 2) = (S.drop k).flatMap cellsM := by
  induction S generalizing k with
  | nil => simp
  | cons x S ih =>
    cases k with
    | zero => simp
    | succ k =>
      rw [List.flatMap_cons, List.drop_succ_cons, ← ih k, List.drop_append]
      have : (cellsM x).length = 2 := rfl
      rw [this, List.drop_of_length_le (by rw [this]; omega), show (k + 1) * 2 - 2 = k * 2 from by omega, List.nil_append]

theorem less_ltN : ∀ a b : Bs, Op.bytesLess a b = ltN a b
  | [], [] => rfl
  | [], _ :: _ => rfl
  | _ :: _, [] => rfl
  | a :: l, b :: m => by
    unfold Op.bytesLess ltN
    by_cases c : a < b
    · rw [if_pos c, decide_eq_true c]; rfl
    · rw [if_neg c, decide_eq_false c]
      by_cases d : b < a
      · rw [if_pos d]
        have : a ≠ b := fun e => by subst e; simp at d
        simp [this]
      · rw [if_neg d]
        have : a = b := u8_tri c d
        subst this
        simp [less_ltN l m]

theorem str_less (a b : Bs) : Op.bytesLess (str a).toList (str b).toList = ltN a b := by rw [str_toList, str_toList, less_ltN]

theorem RowAt.firsts {w : World} {a : Option Addr} {n c : Nat} {xs : List Value} (h : RowAt w (.slice a n c) n xs) (k size : Nat) (hk : k ≤ n) : RowAt w (.slice a k c) k (xs.take (k * size)) := by
  rcases h with ⟨hv, h0, rfl⟩ | ⟨a1, c1, hv, h1, h2, hc⟩
  · cases hv
    have : k = 0 := by omega
    subst this
    exact .inl ⟨rfl, rfl, by simp⟩
  · cases hv
    refine .inr ⟨_, _, rfl, by omega, h2, fun j u hu => hc j u ?_⟩
    rw [List.getElem?_take] at hu
    split at hu
    · exact hu
    · cases hu

theorem fileM_row {u w : World} {F : HProp} {g : Nat} (y : FileM) {t : TypeId} {fr : Nat × Nat} (h : Sat u w (own g (.cells #[.string (str y.1.name), y.2] t fr) * F)) :
    RowAt w (.slice (some ⟨g, 0, none⟩) 1 1) 1 (cellsM y) := by
  refine .inr ⟨⟨g, 0, none⟩, 1, rfl, Nat.le_refl _, by decide, fun j y hy => ?_⟩
  rw [addr_add, h.cell]
  match j, hy with
  | 0, hy => exact hy
  | 1, hy => exact hy
  | j + 2, hy => simp [cellsM] at hy

theorem Sat.row_lasts {u w : World} {F : HProp} {e : TypeId} {size : Nat} {a : Option Addr} {n c k : Nat} {xs : List Value} (h : Sat u w (ownRow e size (.slice a n c) n xs * F)) (hk : k ≤ n) :
    RowAt w (.slice (if c = k then a else a.map (·.add (k * size))) (n - k) (c - k)) (n - k) (xs.drop (k * size)) := by
  have hl := Sat.row_len h
  have h0 := Sat.row_at h
  rcases Sat.row_iff.1 h with ⟨hv, h1, h2, _⟩ | ⟨g, cap, cur, hv, _⟩
  · cases hv
    subst h2
    have : k = 0 := by omega
    subst this
    exact .inl ⟨by simp, rfl, by simp⟩
  · cases hv
    rcases h0 with ⟨hv, _⟩ | ⟨a1, c1, hv, h1, h2, hc⟩
    · cases hv
    · cases hv
      by_cases e : c = k
      · rw [if_pos e]
        have hnk : n - k = 0 := by omega
        refine .inr ⟨_, _, rfl, by omega, by omega, fun j u hu => ?_⟩
        rw [List.getElem?_drop] at hu
        have := (List.getElem?_eq_some_iff.1 hu).1
        have e2 : n = k := by omega
        subst e2
        omega
      · rw [if_neg e]
        refine .inr ⟨_, _, rfl, by omega, by omega, fun j u hu => ?_⟩
        rw [List.getElem?_drop] at hu
        have := hc _ _ hu
        rw [addr_add] at this
        show w.cell? (((⟨g, 0, none⟩ : Addr).add (k * size)).add j) = _
        rw [addr_add, addr_add_at]
        exact this

theorem cellsM_one {u w : World} {F : HProp} {S : List FileM} (h : Sat u w (roM S * F)) : ∀ y ∈ S.flatMap cellsM, y.oneCell' = true := by
  intro y hy
  obtain ⟨x, hx, hy⟩ := List.mem_flatMap.1 hy
  obtain ⟨k, hk⟩ := List.getElem?_of_mem hx
  obtain ⟨a, c, e, _, _⟩ := BytesAt.len' (roM_get h hk)
  simp only [cellsM, List.mem_cons, List.not_mem_nil, or_false] at hy
  rcases hy with rfl | rfl
  · rfl
  · rw [e]; rfl

theorem posN_step (fs : List FileP) (n : Bs) (k : Nat) (hk : k ≤ posN fs n) :
    (∃ f, k < posN fs n ∧ fs[k]? = some f ∧ ltN f.name n = true) ∨ (k = posN fs n ∧ (k = fs.length ∨ ∃ f, fs[k]? = some f ∧ ltN f.name n = false)) := by
  induction fs generalizing k with
  | nil =>
    right
    have : posN [] n = 0 := rfl
    exact ⟨by omega, .inl (by simp; omega)⟩
  | cons g fs ih =>
    rw [posN_cons] at hk ⊢
    cases hl : ltN g.name n
    · rw [hl, if_neg (by simp)] at hk
      have : k = 0 := by omega
      subst this
      right
      rw [if_neg (by simp)]
      exact ⟨rfl, .inr ⟨g, rfl, hl⟩⟩
    · rw [hl, if_pos rfl] at hk
      rw [if_pos rfl]
      cases k with
      | zero => exact .inl ⟨g, by omega, rfl, hl⟩
      | succ k =>
        rcases ih k (by omega) with ⟨f, h1, h2, h3⟩ | ⟨h1, h2⟩
        · exact .inl ⟨f, by omega, h2, h3⟩
        · refine .inr ⟨by omega, ?_⟩
          rcases h2 with h2 | ⟨f, h2, h3⟩
          · exact .inl (by simp; omega)
          · exact .inr ⟨f, h2, h3⟩

theorem ins_mid (S : List FileM) (y : FileM) (m : Nat) (h : posN (S.map (·.1)) y.1.name = m) : (S.take m ++ y :: S.drop m).map (·.1) = insF y.1 (S.map (·.1)) := by
  rw [insF_at, h, List.map_append, List.map_cons, List.map_take, List.map_drop]

theorem roM_mid (S : List FileM) (y : FileM) (m : Nat) : roM (S.take m ++ y :: S.drop m) = roB y.2 y.1.all * roM S := by
  rw [roM_append]
  show roM (S.take m) * (roB y.2 y.1.all * roM (S.drop m)) = _
  rw [star_left_comm, ← roM_append, List.take_append_drop]

theorem len_mid (S : List FileM) (y : FileM) (m : Nat) (h : m ≤ S.length) : (S.take m ++ y :: S.drop m).length = m + 1 + (S.length - m) := by
  rw [List.length_append, List.length_cons, List.length_take, List.length_drop]
  omega

section
variable (u w : World) (F : HProp) (p : Nat) (d : DiskP)

set_option maxRecDepth 100000 in
set_option maxHeartbeats 8000000 in
theorem rfiles_any (hs : Sat u w (isM p d * F)) :
    Calls Tryz.prog 97 #[.pointer (some ⟨p, 0, none⟩)] w fun e w' => ∃ a c, e = .returned (.slice a d.files.length c) ∧ Sat u w' (isMFs (.slice a d.files.length c) d.files * (isM p d * F)) := by
  obtain ⟨i0, hi, hz0, hz1, hz2⟩ := info_parts info_fileM
  obtain ⟨ok, v, L, hL, h2⟩ := isM_iff.1 hs
  obtain ⟨a, c, rfl, hc1, hc2⟩ := h2.right.row_at.len
  have hlb : L.length ≤ 1000000 := by rw [hL.length_eq]; exact ok.1.many
  have OK := Lib.hid ok
  have HL := Lib.hid hL
  have c0 := h2.cell 0
  have h30 : Sat u w (ownRow 130 2 (.slice none 0 0) 0 [] * (roM [] * (own p (headR (.slice a L.length c) d) * (ownK (.slice a L.length c) L * F)))) := Sat.row_nil (Sat.fact_iff.2 ⟨trivial, h2⟩)
  clear hs ok hL h2
  go_enter Tryz.func97, Tryz.ntmps97
  go_wp2_with fail
  clear c0
  go_loopw [3, 4] (fun t3 t4 wr => ∃ (k : Nat) (S : List FileM) (a' : Option Addr) (c' : Nat), k ≤ L.length ∧ t4 = .int .i64 k ∧ t3 = .slice a' S.length c' ∧ S.map (·.1) = sortL (L.take k) ∧ S.length = k ∧ Sat u wr (ownRow 130 2 (.slice a' S.length c') S.length (S.flatMap cellsM) * (roM S * (own p (headR (.slice a L.length c) d) * (ownK (.slice a L.length c) L * F))))) (fun _ t _ => L.length - (intOf t).toNat)
  case atStart => exact ⟨0, [], none, 0, Nat.zero_le _, rfl, rfl, rfl, rfl, h30⟩
  case round =>
    clear h30
    obtain ⟨k, S, a', c', hk, rfl, rfl, hS, hSk, h4⟩ := hrel
    have HS := Lib.hid hS
    have HSK := Lib.hid hSk
    clear hS
    have h5 : Sat u wr (own p (headR (.slice a L.length c) d) * _) := h4.eq (show _ = own p _ * (ownRow _ 2 (.slice a' S.length c') S.length (S.flatMap cellsM) * (roM S * (ownK (.slice a L.length c) L * F))) by ac_rfl)
    have c0 := h5.cell 0
    by_cases hlt : k < L.length
    · obtain ⟨x, hx⟩ : ∃ x, L[k]? = some x := ⟨L[k]'(by omega), List.getElem?_eq_getElem _⟩
      obtain ⟨g, rfl, hcells⟩ := Sat.kept (h4.eq (show _ = ownK _ L * (ownRow _ 2 (.slice a' S.length c') S.length (S.flatMap cellsM) * (roM S * (own p (headR (.slice a L.length c) d) * F))) by ac_rfl)) hx
      obtain ⟨d0, d1, d2, d3⟩ := hcells wr (h4.eq (by ac_rfl))
      have y1 : (k : Int) < L.length := by omega
      have HX := Lib.hid hx
      have HC := Lib.hid hcells
      have hsl : S.length ≤ 1000000 := by omega
      have hsc := (RowAt.cap h4.row_at).2
      clear hx hcells hSk
      generalize hP : posN (S.map (·.1)) x.name = P
      have HP := Lib.hid hP
      have hPl : P ≤ S.length := by rw [← hP]; have := posN_le (S.map (·.1)) x.name; simpa using this
      clear hP
      go_wp2_with fail
      have HPC := Lib.hid (fun (w' : World) (h' : Sat u w' (ownRow 130 2 (.slice a' S.length c') S.length (S.flatMap cellsM) * (roM S * (own p (headR (.slice (some ⟨g, 0, none⟩) L.length c) d) * (ownK (.slice (some ⟨g, 0, none⟩) L.length c) L * F))))) => (show w'.cell? ⟨p, 0, none⟩ = some (.slice (some ⟨g, 0, none⟩) L.length c) from (h'.s3).cell 0))
      have HXC := Lib.hid (fun (w' : World) (h' : Sat u w' (ownRow 130 2 (.slice a' S.length c') S.length (S.flatMap cellsM) * (roM S * (own p (headR (.slice (some ⟨g, 0, none⟩) L.length c) d) * (ownK (.slice (some ⟨g, 0, none⟩) L.length c) L * F))))) => HC.out w' (h'.eq (by ac_rfl)))
      clear c0 h5 d0 d1 d2 d3 HC
      go_loopw [5] (fun t5 wq => ∃ m : Nat, m ≤ P ∧ t5 = .int .i64 m ∧ Sat u wq (ownRow 130 2 (.slice a' S.length c') S.length (S.flatMap cellsM) * (roM S * (own p (headR (.slice (some ⟨g, 0, none⟩) L.length c) d) * (ownK (.slice (some ⟨g, 0, none⟩) L.length c) L * F))))) (fun t _ => P - (intOf t).toNat)
      case atStart => exact ⟨0, Nat.zero_le _, rfl, h4⟩
      case round =>
        clear h4
        obtain ⟨m, hm, rfl, h6⟩ := hrel
        go_upto_region 6 with fail
        rcases posN_step (S.map (·.1)) x.name m (by rw [HP.out]; exact hm) with ⟨f, hmP, hf, hlf⟩ | ⟨hmP, hend⟩
        · rw [HP.out] at hmP
          obtain ⟨y, hy, hyf⟩ : ∃ y, S[m]? = some y ∧ y.1 = f := by
            rw [List.getElem?_map] at hf
            rcases hS : S[m]? with _ | y
            · rw [hS] at hf; cases hf
            · rw [hS] at hf; cases hf; exact ⟨y, rfl, rfl⟩
          subst hyf
          obtain ⟨g2, rfl, hcm⟩ := Sat.fileM h6 hy
          have HCM := Lib.hid hcm
          have HY := Lib.hid hy
          have HLF := Lib.hid hlf
          have y2 : (m : Int) < S.length := by omega
          have y3 : m < S.length := by omega
          clear hcm hf hy hlf
          refine wp_region_seq [(0, true), (1, true), (2, true), (3, true), (4, true), (5, true), (6, true), (7, true), (8, true), (9, true), (10, true), (11, true), (12, true), (13, true), (14, true), (15, true), (16, true), (17, true), (18, true), (19, true)] (fun wS => Sat u wS (ownRow 130 2 (.slice (some ⟨g2, 0, none⟩) S.length c') S.length (S.flatMap cellsM) * (roM S * (own p (headR (.slice (some ⟨g, 0, none⟩) L.length c) d) * (ownK (.slice (some ⟨g, 0, none⟩) L.length c) L * F))))) (by kernel_rfl) (by kernel_rfl) (fun _ _ _ _ _ h => h) ?_
          simp only [pickOps, Array.getD_eq_getD_getElem?, List.getElem?_toArray, List.getElem?_cons_succ, List.getElem?_cons_zero, Option.getD_some]
          have hls : Op.bytesLess (str y.1.name).toList (str x.name).toList = true := by rw [str_less]; exact HLF.out
          repeat (first
            | (refine wpSeq_run (by rfl) h6.drew (fun K hK => ⟨?_, ?_, ?_⟩); rotate_left; (· (intro wS hSw; have q0 := HPC.out _ hSw; have q1 := (HXC.out _ hSw).1; have q2 := (HCM.out _ hSw).1; go_simp <;> with_reducible rfl)); simp only [Act.put, List.setIfInBounds_toArray, List.set_cons_zero, List.set_cons_succ]; refine hK _ ?_; clear hK K)
            | (refine wpSeq_skip (by rfl) h6.drew (fun K hK => ?_); simp only [Act.put, List.setIfInBounds_toArray, List.set_cons_zero, List.set_cons_succ]; refine hK _ ?_; clear hK K))
          refine wpSeq_end ?_
          have h7 := h6.drew
          generalize wr.drew = w7 at h7 ⊢
          clear h6 hls
          go_wp2_with fail
          go_roundw
          case rel => exact ⟨m + 1, by omega, by go_num, h7⟩
          case measure => simp [intOf]; omega
        · rw [HP.out] at hmP
          subst hmP
          clear hm
          go_cut [20, 21, 22, 23, 24, 25, 26, 27, 28, 29, 30, 31, 32, 33, 34, 35] (fun _ _ _ _ _ _ _ _ _ _ _ _ _ _ _ t35 wx => t35 = .bool false ∧ Sat u wx (ownRow 130 2 (.slice a' S.length c') S.length (S.flatMap cellsM) * (roM S * (own p (headR (.slice (some ⟨g, 0, none⟩) L.length c) d) * (ownK (.slice (some ⟨g, 0, none⟩) L.length c) L * F)))))
          case first J K' hJ hmet =>
            rcases hend with hend | ⟨f, hf, hlf⟩
            · have y2 : ¬ (m : Int) < S.length := by rw [List.length_map] at hend; omega
              have HE := Lib.hid hend
              clear hend
              refine wp_region_seq [(0, true), (1, true), (2, true), (3, true), (4, true), (5, true), (6, true), (7, true), (8, true), (9, true), (10, true), (11, true), (12, true), (13, true), (14, true), (15, true), (16, true), (17, true), (18, true), (19, true)] (fun wS => Sat u wS (ownRow 130 2 (.slice a' S.length c') S.length (S.flatMap cellsM) * (roM S * (own p (headR (.slice (some ⟨g, 0, none⟩) L.length c) d) * (ownK (.slice (some ⟨g, 0, none⟩) L.length c) L * F))))) (by kernel_rfl) (by kernel_rfl) (fun _ _ _ _ _ h => h) ?_
              simp only [pickOps, Array.getD_eq_getD_getElem?, List.getElem?_toArray, List.getElem?_cons_succ, List.getElem?_cons_zero, Option.getD_some]
              repeat (first
                | (refine wpSeq_run (by rfl) h6.drew (fun K hK => ⟨?_, ?_, ?_⟩); rotate_left; (· (intro wS hSw; have q0 := HPC.out _ hSw; go_simp <;> with_reducible rfl)); simp only [Act.put, List.setIfInBounds_toArray, List.set_cons_zero, List.set_cons_succ]; refine hK _ ?_; clear hK K)
                | (refine wpSeq_skip (by rfl) h6.drew (fun K hK => ?_); simp only [Act.put, List.setIfInBounds_toArray, List.set_cons_zero, List.set_cons_succ]; refine hK _ ?_; clear hK K))
              refine wpSeq_end ?_
              refine hmet _ _ ?_
              go_meet
              exact ⟨rfl, h6.drew⟩
            · obtain ⟨y, hy, hyf⟩ : ∃ y, S[m]? = some y ∧ y.1 = f := by
                rw [List.getElem?_map] at hf
                rcases hS : S[m]? with _ | y
                · rw [hS] at hf; cases hf
                · rw [hS] at hf; cases hf; exact ⟨y, rfl, rfl⟩
              subst hyf
              obtain ⟨g2, rfl, hcm⟩ := Sat.fileM h6 hy
              have HCM := Lib.hid hcm
              have y3 : m < S.length := (List.getElem?_eq_some_iff.1 hy).1
              have HY := Lib.hid hy
              have HLF := Lib.hid hlf
              have y2 : (m : Int) < S.length := by omega
              clear hcm hf hy hlf
              have hls : Op.bytesLess (str y.1.name).toList (str x.name).toList = false := by rw [str_less]; exact HLF.out
              refine wp_region_seq [(0, true), (1, true), (2, true), (3, true), (4, true), (5, true), (6, true), (7, true), (8, true), (9, true), (10, true), (11, true), (12, true), (13, true), (14, true), (15, true), (16, true), (17, true), (18, true), (19, true)] (fun wS => Sat u wS (ownRow 130 2 (.slice (some ⟨g2, 0, none⟩) S.length c') S.length (S.flatMap cellsM) * (roM S * (own p (headR (.slice (some ⟨g, 0, none⟩) L.length c) d) * (ownK (.slice (some ⟨g, 0, none⟩) L.length c) L * F))))) (by kernel_rfl) (by kernel_rfl) (fun _ _ _ _ _ h => h) ?_
              simp only [pickOps, Array.getD_eq_getD_getElem?, List.getElem?_toArray, List.getElem?_cons_succ, List.getElem?_cons_zero, Option.getD_some]
              repeat (first
                | (refine wpSeq_run (by rfl) h6.drew (fun K hK => ⟨?_, ?_, ?_⟩); rotate_left; (· (intro wS hSw; have q0 := HPC.out _ hSw; have q1 := (HXC.out _ hSw).1; have q2 := (HCM.out _ hSw).1; go_simp <;> with_reducible rfl)); simp only [Act.put, List.setIfInBounds_toArray, List.set_cons_zero, List.set_cons_succ]; refine hK _ ?_; clear hK K)
                | (refine wpSeq_skip (by rfl) h6.drew (fun K hK => ?_); simp only [Act.put, List.setIfInBounds_toArray, List.set_cons_zero, List.set_cons_succ]; refine hK _ ?_; clear hK K))
              refine wpSeq_end ?_
              refine hmet _ _ ?_
              go_meet
              exact ⟨rfl, h6.drew⟩
          case rest =>
            obtain ⟨rfl, h7⟩ := hcut
            clear h6 hend
            have hr := (Sat.row_at h7).firsts m 2 hPl
            rw [flatM_take] at hr
            have hone := cellsM_one h7.right
            have y2 : (m : Int) ≤ c' := by omega
            have h8 : Sat u wc (ownRow 130 2 (.slice none 0 0) 0 [] * (ownRow 130 2 (.slice a' S.length c') S.length (S.flatMap cellsM) * (roM S * (own p (headR (.slice (some ⟨g, 0, none⟩) L.length c) d) * (ownK (.slice (some ⟨g, 0, none⟩) L.length c) L * F))))) := Sat.row_nil h7
            have hnl : ((S.take m).flatMap cellsM).length = m * 2 := by rw [flat_len cellsM 2 cellsM_len, List.length_take]; congr 1; omega
            have HNL := Lib.hid hnl
            have HR := Lib.hid hr
            have HO := Lib.hid hone
            have hml : m ≤ 1000000 := by omega
            clear hnl hr hone
            go_wp2_with (at_builtin; refine wpList_append_sl rfl _ _ 127 rfl i0 _ Tryz.underlying127 hi hz0 hz1 hz2 rfl (by decide) rfl rfl h8 HR.out HNL.out (fun y hy => HO.out y (by rw [← flatM_take] at hy; exact List.mem_of_mem_take hy)) (by omega) ?_; intro a4 c4 w4 h9 hx; clear hx)
            have h10 : Sat u w4 (ownRow 130 2 (.slice a4 m c4) m ((S.take m).flatMap cellsM) * (ownRow 130 2 (.slice a' S.length c') S.length (S.flatMap cellsM) * (roM S * (own p (headR (.slice (some ⟨g, 0, none⟩) L.length c) d) * (ownK (.slice (some ⟨g, 0, none⟩) L.length c) L * F))))) := h9.eq (by simp)
            clear h7 h8 h9
            have hxs : x.size ≤ 8388608 := OK.out.1.size x (HL.out.mem_iff.1 (List.mem_of_getElem? HX.out))
            have hal : x.all.length = x.size := by unfold FileP.all FileP.size; rw [List.length_append]
            have e1 : str x.dry ++ str x.wet = str x.all := (str_append _ _).symm
            have y3 : ¬ 9223372036854775807 < x.dry.length + x.wet.length := by
              have : x.dry.length + x.wet.length = x.size := rfl
              omega
            have hss : (str x.all).size ≤ 1000000000 := by rw [str_size, hal]; omega
            have HSS := Lib.hid hss
            clear hss hxs hal
            refine wp_region_seq [(0, true), (1, true), (2, true), (3, true), (4, true), (5, true), (6, true), (7, true), (8, true), (9, true), (10, true), (11, true), (12, true), (13, true), (14, true), (15, true), (16, true), (17, true), (18, true), (19, true), (20, true), (21, true), (22, true), (23, true), (24, true), (25, true), (26, false), (27, true), (28, false), (29, false), (30, true)] (fun wS => ∃ G, Sat u wS (G * (ownRow 130 2 (.slice a' S.length c') S.length (S.flatMap cellsM) * (roM S * (own p (headR (.slice (some ⟨g, 0, none⟩) L.length c) d) * (ownK (.slice (some ⟨g, 0, none⟩) L.length c) L * F)))))) (by kernel_rfl) (by kernel_rfl) (fun _ _ _ _ _ h => h) ?_
            simp only [pickOps, Array.getD_eq_getD_getElem?, List.getElem?_toArray, List.getElem?_cons_succ, List.getElem?_cons_zero, Option.getD_some]
            have h11 := h10.drew
            repeat (first
              | (refine wpSeq_run (by rfl) ⟨_, h11⟩ (fun K hK => ⟨?_, ?_, ?_⟩); rotate_left; (· (intro wS hSw; have q0 := HPC.out _ hSw.choose_spec.right; have q1 := (HXC.out _ hSw.choose_spec.right).1; have q2 := (HXC.out _ hSw.choose_spec.right).2.1; have q3 := (HXC.out _ hSw.choose_spec.right).2.2.1; go_simp <;> with_reducible rfl)); simp only [Act.put, List.setIfInBounds_toArray, List.set_cons_zero, List.set_cons_succ]; refine hK _ ?_; clear hK K)
              | (refine wpSeq_skip (by rfl) ⟨_, h11⟩ (fun K hK => ?_); simp only [Act.put, List.setIfInBounds_toArray, List.set_cons_zero, List.set_cons_succ]; refine hK _ ?_; clear hK K))
            refine wpSeq_act (by rfl) (fun K hK => ?_)
            refine wp_convert 9 34 _ rfl rfl (Lib.run_convert_string_bytes _ 9 34 5 (str x.all) Tryz.underlying9 Tryz.underlying34 Tryz.underlying5) ?_
            have h12 := (h11.toBytes 5 (str x.all) HSS.out).roB_ownT
            rw [str_data] at h12
            have e5 : w4.drew.heap.size = w4.heap.size := rfl
            rw [e5] at h12 ⊢
            generalize Lib.bytesWorld w4.drew 5 (str x.all) = w5 at h12 ⊢
            generalize w4.heap.size = b5 at h12 ⊢
            generalize grownCap w4.drew (str x.all).size 0 5 = c5 at h12 ⊢
            generalize (str x.all).size = n5 at h12 ⊢
            clear e5
            try dsimp only
            try simp only [Act.put, List.setIfInBounds_toArray, List.set_cons_zero, List.set_cons_succ]
            refine hK _ _ (_) ((fun _ h => h)) ⟨_, h12.sa⟩ ?_
            clear hK K
            repeat (first
              | (refine wpSeq_run (by rfl) ⟨_, h12.sa⟩ (fun K hK => ⟨?_, ?_, ?_⟩); rotate_left; (· (intro wS hSw; go_simp <;> with_reducible rfl)); simp only [Act.put, List.setIfInBounds_toArray, List.set_cons_zero, List.set_cons_succ]; refine hK _ ?_; clear hK K)
              | (refine wpSeq_skip (by rfl) ⟨_, h12.sa⟩ (fun K hK => ?_); simp only [Act.put, List.setIfInBounds_toArray, List.set_cons_zero, List.set_cons_succ]; refine hK _ ?_; clear hK K))
            refine wpSeq_act (by rfl) (fun K hK => ?_)
            go_simp
            have h13 := h12.alloc (.cells #[.string (str x.name), .slice (some ⟨b5, 0, none⟩) n5 c5] 130)
            have hr := fileM_row (x, .slice (some ⟨b5, 0, none⟩) n5 c5) h13
            try dsimp only
            try simp only [Act.put, List.setIfInBounds_toArray, List.set_cons_zero, List.set_cons_succ]
            refine hK _ _ (_) ((fun _ h => h)) ⟨_, h13.right.sa⟩ ?_
            clear hK K
            refine wpSeq_act (by rfl) (fun K hK => ?_)
            have h14 : Sat u _ (ownRow 130 2 (.slice a4 m c4) m ((S.take m).flatMap cellsM) * (roB (.slice (some ⟨b5, 0, none⟩) n5 c5) x.all * (ownRow 130 2 (.slice a' S.length c') S.length (S.flatMap cellsM) * (roM S * (own p (headR (.slice (some ⟨g, 0, none⟩) L.length c) d) * (ownK (.slice (some ⟨g, 0, none⟩) L.length c) L * F)))))) := h13.right.s2
            refine wp_append_sl _ _ 127 rfl i0 _ Tryz.underlying127 hi hz0 hz1 hz2 rfl (by decide) rfl rfl h14 hr rfl (by intro q hq; cases hq with | head => rfl | tail _ hq => cases hq with | head => rfl | tail _ hq => cases hq) (by omega) ?_
            intro a6 c6 w6 h15 hx
            clear hx
            try dsimp only
            try simp only [Act.put, List.setIfInBounds_toArray, List.set_cons_zero, List.set_cons_succ]
            refine hK _ _ (_) ((fun _ h => h)) ⟨_, h15.sa⟩ ?_
            clear hK K
            repeat (first
              | (refine wpSeq_run (by rfl) ⟨_, h15.sa⟩ (fun K hK => ⟨?_, ?_, ?_⟩); rotate_left; (· (intro wS hSw; go_simp <;> with_reducible rfl)); simp only [Act.put, List.setIfInBounds_toArray, List.set_cons_zero, List.set_cons_succ]; refine hK _ ?_; clear hK K)
              | (refine wpSeq_skip (by rfl) ⟨_, h15.sa⟩ (fun K hK => ?_); simp only [Act.put, List.setIfInBounds_toArray, List.set_cons_zero, List.set_cons_succ]; refine hK _ ?_; clear hK K))
            refine wpSeq_end ?_
            clear h10 h11 h12 h13 h14 hr e1 y3
            have hcp := (RowAt.cap (Sat.row_at h15.right.right)).2
            have y5 : (m : Int) ≤ S.length := by omega
            have y6 : (S.length : Int) ≤ c' := by omega
            have hr2 := h15.right.right.row_lasts hPl
            rw [flatM_drop] at hr2
            have HR2 := Lib.hid hr2
            have hnl2 : ((S.drop m).flatMap cellsM).length = (S.length - m) * 2 := by rw [flat_len cellsM 2 cellsM_len, List.length_drop]
            have HNL2 := Lib.hid hnl2
            clear hr2 hnl2
            go_wp2_with (at_builtin; refine wpList_append_sl rfl _ _ 127 rfl i0 _ Tryz.underlying127 hi hz0 hz1 hz2 rfl (by decide) rfl rfl h15 HR2.out HNL2.out (fun y hy => HO.out y (by rw [← flatM_drop] at hy; exact List.mem_of_mem_drop hy)) (by omega) ?_; intro a8 c8 w8 h16 hx; clear hx)
            have hln := len_mid S (x, .slice (some ⟨b5, 0, none⟩) n5 c5) m hPl
            refine ⟨⟨k + 1, S.take m ++ (x, .slice (some ⟨b5, 0, none⟩) n5 c5) :: S.drop m, a8, c8, by omega, rfl, by rw [hln], ?_, ?_, ?_⟩, by simp [intOf]; omega⟩
            · rw [ins_mid S (x, .slice (some ⟨b5, 0, none⟩) n5 c5) m HP.out, HS.out, sortL_snoc L k x HX.out]
            · rw [hln]
              have := HSK.out
              omega
            · rw [hln, roM_mid, List.flatMap_append, List.flatMap_cons]
              have h17 : Sat u w8 ((ownRow 130 2 (.slice a' S.length c') S.length (S.flatMap cellsM)) * (ownRow 130 2 (.slice a8 (m + 1 + (S.length - m)) c8) (m + 1 + (S.length - m)) ((S.take m).flatMap cellsM ++ (cellsM (x, .slice (some ⟨b5, 0, none⟩) n5 c5) ++ (S.drop m).flatMap cellsM)) * (roB (.slice (some ⟨b5, 0, none⟩) n5 c5) x.all * roM S * (own p (headR (.slice (some ⟨g, 0, none⟩) L.length c) d) * (ownK (.slice (some ⟨g, 0, none⟩) L.length c) L * F))))) := by
                rw [List.append_assoc] at h16
                exact h16.eq (by ac_rfl)
              exact h17.right
    · have e : k = L.length := by omega
      subst e
      rw [List.take_length] at HS
      have hso := sortL_perm HL.out OK.out.1.sorted
      have HSO := Lib.hid hso
      clear hso h5
      go_wp2_with fail
      go_ret
      have hm := HS.out.trans HSO.out
      have hlen : S.length = d.files.length := by rw [← hm, List.length_map]
      have h6 : Sat u wr (isM p d * _) := isM_iff.2 ⟨OK.out, _, L, HL.out, h4.eq (show _ = own p (headR (.slice a L.length c) d) * (ownK (.slice a L.length c) L * (ownRow 130 2 (.slice a' S.length c') S.length (S.flatMap cellsM) * (roM S * F))) by ac_rfl)⟩
      refine ⟨a', c', by rw [← hlen]; rfl, ?_⟩
      rw [← hlen]
      exact isMFs_iff.2 ⟨S, hm, h6.eq (by ac_rfl)⟩
end
end Go.Proofs.YtlfmkiclaijokaaGreatDoor
