/- Remove, Read. -/
import Derived.Test.YtlfmkiclaijokaaGreatDoorMk13
namespace Go.Proofs.YtlfmkiclaijokaaGreatDoor
open Go.RowKit
set_option linter.unusedVariables false

theorem texts1 {u w : World} {F : HProp} {b : Nat} {x : Bs} (hl1 : x.length ≤ 1000000000) (h : Sat u w (own b (.cells #[.string (str x)] 9 (0, 0)) * F)) : TextsAt w (.slice (some ⟨b, 0, none⟩) 1 1) [x] := by
  refine ⟨.inr ⟨⟨b, 0, none⟩, 1, rfl, Nat.le_refl _, by decide, fun j v hv => ?_⟩, fun s hs => ?_⟩
  · rw [addr_add, h.cell]
    simpa using hv
  · simp only [List.mem_cons, List.not_mem_nil, or_false] at hs
    rcases hs with rfl
    exact hl1

section
variable (u w : World) (F : HProp) (p : Nat) (d : DiskP) (n : Bs)

set_option maxHeartbeats 4000000 in
theorem dremove_any (hl : n.length ≤ 1000000000) (hs : Sat u w (isD p d * F)) :
    Calls Tryz.prog 39 #[.pointer (some ⟨p, 0, none⟩), .string (str n)] w
      fun e w' => e = .returned (.int .i64 (removeD d n).1) ∧ Sat u w' (isD p (removeD d n).2 * F) := by
  have h1 := (hs.alloc (.cells #[.string (str n)] 9)).s2
  have hd : removeD d n = if barsD d [n] ≠ 0 then (barsD d [n], d) else if hasN d.files n then (if stepOk d then (0, { stepD d with files := delF n d.files }) else (40, stepD d)) else (5, d) := rfl
  generalize removeD d n = R at hd
  have HD := Lib.hid hd
  clear hs hd
  go_enter Tryz.func39, Tryz.ntmps39
  go_wp2_with fail
  refine (bars_any u _ _ p d _ [n] h1 (texts1 hl h1.s2)).mono ?_
  rintro e w1 ⟨rfl, rfl⟩
  by_cases hb : barsD d [n] = 0
  case neg =>
    have H1 := Lib.hid h1.s2.right
    have hne : (barsD d [n] != 0) = true := by simpa using hb
    have e := HD.out
    rw [if_pos hb] at e
    subst e
    clear h1
    dsimp only
    go_wp2_with fail
    go_ret
    exact ⟨rfl, H1.out⟩
  rw [hb]
  have HB := Lib.hid hb
  dsimp only
  clear hb
  go_wp2_with fail
  refine (find_any u _ _ p d n h1).mono ?_
  rintro e w2 ⟨rfl, h2⟩
  clear h1
  rcases hh : hasN d.files n with _ | _
  · have e := HD.out
    rw [if_neg (by simp [HB.out]), hh, if_neg (by simp)] at e
    subst e
    have H2 := Lib.hid h2.s2.right
    clear h2 hh
    dsimp only
    go_wp2_with fail
    go_ret
    exact ⟨rfl, H2.out⟩
  have HH := Lib.hid hh
  clear hh
  dsimp only
  go_wp2_with fail
  refine (dstep_any u _ _ p d h2).mono ?_
  rintro e w5 ⟨rfl, h9⟩
  dsimp only
  clear h2
  rcases hst : stepOk d with _ | _
  · have e := HD.out
    rw [if_neg (by simp [HB.out]), HH.out, if_pos rfl, hst, if_neg (by simp)] at e
    subst e
    have H2 := Lib.hid h9.s2.right
    clear h9 hst
    go_wp2_with fail
    go_ret
    exact ⟨rfl, H2.out⟩
  have HST := Lib.hid hst
  clear hst
  obtain ⟨f, hf⟩ : ∃ f, getF (stepD d).files n = some f := by rw [stepD_files]; exact Option.isSome_iff_exists.1 HH.out
  obtain ⟨g2, cap2, L2, a4, c4, a5, c5, ok2, hL2, hkl2, hlb2, hx2, h10⟩ := disk_at h9 hf
  have e1 : posN (stepD d).files n = posN d.files n := by rw [stepD_files]
  rw [e1] at hkl2 hx2
  generalize hk : posN d.files n = k at hkl2 hx2 e1 ⊢
  have c0 : w5.cell? ⟨p, 0, none⟩ = some (.slice (some ⟨g2, 0, none⟩) L2.length cap2) := h10.cell 0
  have hone := roL_one h10.right.right
  have OK2 := Lib.hid ok2
  have HL2 := Lib.hid hL2
  have HK2 := Lib.hid e1
  have HG2 := Lib.hid hf
  have q1 : IntKind.i64.wrap ((k : Int) + 1) = (k : Int) + 1 := by rw [IntKind.wrap_i64]; omega
  clear ok2 hL2 e1 hk hf hx2 h9
  go_wp2_with fail
  refine (delete_any u w5 _ _ cap2 L2 k (k + 1) (by omega) (by omega) hlb2 hone h10.s2).mono ?_
  rintro e w6 ⟨rfl, h11⟩
  dsimp only
  generalize hn : k + (L2.length - (k + 1)) = m at h11 ⊢
  have HNN := Lib.hid hn
  clear hn h10 c0
  have c1 : w6.cell? ⟨p, 0, none⟩ = some (.slice (some ⟨g2, 0, none⟩) L2.length cap2) := h11.right.cell 0
  have f1 := h11.right.free 0
  have h12 := h11.s2.setCell 0 (.slice (some ⟨g2, 0, none⟩) m cap2)
  have H13 := Lib.hid (isD_del OK2.out HG2.out HL2.out HK2.out hkl2 HNN.out.symm h12).s2.right
  clear h11 h12
  have e := HD.out
  rw [if_neg (by simp [HB.out]), HH.out, if_pos rfl, HST.out, if_pos rfl] at e
  subst e
  go_wp2_with fail
  go_ret
  refine ⟨rfl, ?_⟩
  have h19 := H13.out
  rw [stepD_files] at h19
  exact h19

set_option maxHeartbeats 4000000 in
theorem dread_any (hl : n.length ≤ 1000000000) (hs : Sat u w (isD p d * F)) :
    Calls Tryz.prog 29 #[.pointer (some ⟨p, 0, none⟩), .string (str n)] w
      fun e w' => ∃ a c, e = .returned (.tuple #[.slice a (readD d n).1.length c, .int .i64 (readD d n).2]) ∧ Sat u w' (ownB (.slice a (readD d n).1.length c) (readD d n).1 * (isD p d * F)) := by
  have h1 := (hs.alloc (.cells #[.string (str n)] 9)).s2
  have hd : readD d n = if barsD d [n] ≠ 0 then ([], barsD d [n]) else match getF d.files n with | none => ([], 5) | some f => (f.all, 0) := rfl
  generalize readD d n = R at hd
  have HD := Lib.hid hd
  clear hs hd
  go_enter Tryz.func29, Tryz.ntmps29
  go_wp2_with fail
  refine (bars_any u _ _ p d _ [n] h1 (texts1 hl h1.s2)).mono ?_
  rintro e w1 ⟨rfl, rfl⟩
  by_cases hb : barsD d [n] = 0
  case neg =>
    have H1 := Lib.hid h1.s2.right
    have hne : (barsD d [n] != 0) = true := by simpa using hb
    have e := HD.out
    rw [if_pos hb] at e
    subst e
    clear h1
    dsimp only
    go_wp2_with fail
    go_ret2
    exact ⟨none, 0, rfl, Sat.row_nil H1.out⟩
  rw [hb]
  have HB := Lib.hid hb
  dsimp only
  clear hb
  go_wp2_with fail
  refine (find_any u _ _ p d n h1).mono ?_
  rintro e w2 ⟨rfl, h2⟩
  clear h1
  rcases hg : getF d.files n with _ | f
  · have e := HD.out
    rw [if_neg (by simp [HB.out]), hg] at e
    subst e
    have hh : hasN d.files n = false := by unfold hasN; rw [hg]; rfl
    have H2 := Lib.hid h2.s2.right
    rw [hh]
    clear h2 hg hh
    dsimp only
    go_wp2_with fail
    go_ret2
    exact ⟨none, 0, rfl, Sat.row_nil H2.out⟩
  have hh : hasN d.files n = true := by unfold hasN; rw [hg]; rfl
  rw [hh]
  have HG := Lib.hid hg
  have e := HD.out
  rw [if_neg (by simp [HB.out]), hg] at e
  subst e
  clear hh hg HD
  dsimp only
  obtain ⟨g, cap, L, a1, c1, a2, c2, ok, hL, hkl, hlb, hx, h4⟩ := disk_at h2 HG.out
  obtain ⟨g', hgg, hcells⟩ := file_cells h4.s2 hx
  cases hgg
  obtain ⟨d0, d1, d2, d3⟩ := hcells w2 h4.s2
  have c0 : w2.cell? ⟨p, 0, none⟩ = some (.slice (some ⟨g, 0, none⟩) L.length cap) := h4.cell 0
  have hfs := ok.size f (getF_name HG.out).2
  unfold FileP.size at hfs
  have OK := Lib.hid ok
  have HX := Lib.hid hx
  have HL := Lib.hid hL
  have y1 : (posN d.files n : Int) < L.length := by omega
  clear hcells ok hx hL h2
  dsimp only at d0 d1 d2 d3
  generalize hk : posN d.files n = k at HX hkl y1 d0 d1 d2 d3 ⊢
  have HK := Lib.hid hk
  clear hk
  go_wp2_with fail
  refine (fall_any u w2 _ (str f.name) _ _ f.born f.dry f.wet h4 (fun w' h => roL_at (x := (f, .slice a1 f.dry.length c1, .slice a2 f.wet.length c2)) h.right.right HX.out) (by omega) (by omega)).mono ?_
  rintro e w3 ⟨a3, c3, rfl, h5⟩
  dsimp only
  clear c0 d0 d1 d2 d3 h4
  have h8 : Sat u w3 (isD p d * (ownB (.slice a3 f.all.length c3) f.all * (own w.heap.size (.cells #[.string (str n)] 9 (0, 0)) * F))) := isD_back OK.out HL.out rfl (h5.eq (by show (ownB (.slice a3 f.all.length c3) f.all * _) = _; ac_rfl))
  have H8 := Lib.hid (h8.eq (show _ = own w.heap.size (.cells #[.string (str n)] 9 (0, 0)) * (ownB (.slice a3 f.all.length c3) f.all * (isD p d * F)) by ac_rfl)).right
  clear h5 h8
  rw [show (f.dry ++ f.wet).length = f.all.length from rfl]
  go_wp2_with fail
  go_ret2
  exact ⟨a3, c3, rfl, H8.out⟩
end
end Go.Proofs.YtlfmkiclaijokaaGreatDoor
