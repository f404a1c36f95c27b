/- Append. On. wal: framed; the records' name; want. -/
import Derived.Test.YtlfmkiclaijokaaGreatDoorMk14
import Derived.Deep.CutBlock
import Derived.Deep.DeepCutAuto
import Derived.Test.YtlfmkiclaijokaaGreatDoorMk9
import Derived.Test.YtlfmkiclaijokaaGreatDoorMk4
import Derived.Test.YtlfmkiclaijokaaGreatDoorMk7
import Derived.Test.YtlfmkiclaijokaaGreatDoorMk3
namespace Go.Proofs.YtlfmkiclaijokaaGreatDoor
open Go.RowKit
set_option linter.unusedVariables false

theorem roL_dup {u w : World} {F : HProp} {L : List FileV} {k : Nat} {x : FileV} (hx : L[k]? = some x) (h : Sat u w (roL L * F)) : Sat u w (roB x.2.1 x.1.dry * (roB x.2.2 x.1.wet * (roL L * F))) := by
  have e : L = L.take k ++ x :: L.drop (k + 1) := by
    obtain ⟨hk, rfl⟩ := List.getElem?_eq_some_iff.1 hx
    rw [← List.drop_eq_getElem_cons, List.take_append_drop]
  have e2 : roL L = roB x.2.1 x.1.dry * (roB x.2.2 x.1.wet * (roL (L.take k) * roL (L.drop (k + 1)))) := by
    rw [show roL L = roL (L.take k ++ x :: L.drop (k + 1)) from by rw [← e], roL_append]
    show roL _ * (roB _ _ * (roB _ _ * roL _)) = _
    ac_rfl
  have e3 : roL L * F = (roB x.2.1 x.1.dry * roB x.2.1 x.1.dry) * ((roB x.2.2 x.1.wet * roB x.2.2 x.1.wet) * ((roL (L.take k) * roL (L.drop (k + 1))) * F)) := by
    rw [roB_dup, roB_dup, e2]
    ac_rfl
  refine h.eq (e3.trans ?_)
  rw [e2]
  ac_rfl

theorem okD_put {d : DiskP} (h : OkD d) (f : FileP) (h1 : f.size ≤ 8388608) (h2 : (usedF d.files : Int) + f.size ≤ d.quota + sizeO (getF d.files f.name)) (h3 : d.files.length < 1000000) : OkD { d with files := putF f d.files } := by
  have e := used_put f d.files h.sorted
  have l := len_put f d.files
  refine ⟨sorted_put f _ h.sorted, h.set0, h.set1, h.quota0, h.quota1, h.steps0, h.steps1, fun k hk => ?_, ?_, ?_⟩
  · rcases mem_putF hk with rfl | hk
    · exact h1
    · exact h.size k hk
  · show (usedF (putF f d.files) : Int) ≤ d.quota
    omega
  · show (putF f d.files).length ≤ _
    omega

theorem Sat.pick46 {u w : World} {A B C D E G : HProp} (h : Sat u w (A * (B * (C * (D * (E * G)))))) : Sat u w (D * G) := (h.eq (show _ = A * (B * (C * (E * (D * G)))) by ac_rfl)).right.right.right.right

theorem isD_quota {u w : World} {F : HProp} {p : Nat} {d : DiskP} (h : Sat u w (isD p d * F)) : w.cell? ⟨p, 1, none⟩ = some (.int .i64 d.quota) := by
  obtain ⟨_, v, h2⟩ := isD_iff.1 h
  exact h2.cell 1

theorem fileOf_facts {d : DiskP} (ok : OkD d) (n : Bs) : (fileOf d n).name = n ∧ sizeO (getF d.files n) = (fileOf d n).size ∧ (fileOf d n).dry.length + (fileOf d n).wet.length ≤ 8388608 := by
  rcases hg : getF d.files n with _ | f
  · have hfo : fileOf d n = ⟨n, [], [], false⟩ := by unfold fileOf; rw [hg]; rfl
    rw [hfo]
    exact ⟨rfl, rfl, by simp⟩
  · have hfo : fileOf d n = f := by unfold fileOf; rw [hg]; rfl
    rw [hfo]
    exact ⟨(getF_name hg).1, rfl, ok.size f (getF_name hg).2⟩

section
variable (u w : World) (F : HProp) (p : Nat) (d : DiskP) (n b : Bs)

set_option maxRecDepth 100000 in
set_option maxHeartbeats 4000000 in
theorem dappend_any (a : Option Addr) (c : Nat) (hl : n.length ≤ 1000000000) (hbl : b.length ≤ 30000000) (hk : ∀ w', Sat u w' F → BytesAt w' (.slice a b.length c) b) (hmany : d.files.length < 1000000) (hs : Sat u w (isD p d * F)) :
    Calls Tryz.prog 24 #[.pointer (some ⟨p, 0, none⟩), .string (str n), .slice a b.length c] w
      fun e w' => e = .returned (.int .i64 (appendD d n b).1) ∧ Sat u w' (isD p (appendD d n b).2 * F) := by
  have h1 := (hs.alloc (.cells #[.string (str n)] 9)).s2
  have hd : appendD d n b = if appE d n b ≠ 0 then (appE d n b, d) else (if stepOk (appPut d n b) then 0 else 40, stepD (appPut d n b)) := rfl
  generalize appendD d n b = R at hd
  have HD := Lib.hid hd
  have HKB := Lib.hid hk
  clear hs hd hk
  go_enter Tryz.func24, Tryz.ntmps24
  go_wp2_with fail
  refine (bars_any u _ _ p d _ [n] h1 (texts1 hl h1.s2)).mono ?_
  rintro e w1 ⟨rfl, rfl⟩
  by_cases hb : barsD d [n] = 0
  case neg =>
    have H1 := Lib.hid h1.s2.right
    have hne : (barsD d [n] != 0) = true := by simpa using hb
    have e := HD.out
    unfold appE at e
    rw [if_pos hb, if_pos hb] at e
    subst e
    clear h1
    dsimp only
    go_wp2_with fail
    go_ret
    exact ⟨rfl, H1.out⟩
  rw [hb]
  have HB := Lib.hid hb
  dsimp only
  clear hb
  have h2 := h1.alloc (.cells #[.string (str n), .slice none 0 0, .slice none 0 0, .bool false] 75)
  have h2' := h2.s2
  clear h1 h2
  go_wp2_with fail
  refine (find_any u _ _ p d n h2').mono ?_
  rintro e w2 ⟨rfl, h2⟩
  clear h2'
  dsimp only
  have hbf : (w.alloc (.cells #[.string (str n)] 9)).heap.size = w.heap.size + 1 := by show (w.heap.push _).size = _; rw [Array.size_push]
  rw [hbf] at h2
  clear hbf
  generalize w.heap.size = bn at h2 ⊢
  go_upto_if 26 with fail
  go_cut [9, 10] (fun _ _ wr => ∃ dv wv, Sat u wr (own (bn + 1) (.cells #[.string (str (fileOf d n).name), dv, wv, .bool (fileOf d n).born] 75 (0, 0)) * (roB dv (fileOf d n).dry * (roB wv (fileOf d n).wet * (isD p d * (own bn (.cells #[.string (str n)] 9 (0, 0)) * F))))))
  case first J K' hJ hmet =>
    rcases hg : getF d.files n with _ | f
    · have hh : hasN d.files n = false := by unfold hasN; rw [hg]; rfl
      have hfo : fileOf d n = ⟨n, [], [], false⟩ := by unfold fileOf; rw [hg]; rfl
      rw [hh]
      have H2 := Lib.hid (show Sat u w2 (own (bn + 1) (.cells #[.string (str n), .slice none 0 0, .slice none 0 0, .bool false] 75 (0, 0)) * (roB (.slice none 0 0) [] * (roB (.slice none 0 0) [] * (isD p d * (own bn (.cells #[.string (str n)] 9 (0, 0)) * F))))) from (h2.s2.roB_nil.roB_nil.eq (by ac_rfl)))
      have HFO := Lib.hid hfo
      clear h2 hg hh hfo
      go_wp2_with fail
      go_meet
      rw [HFO.out]
      exact ⟨_, _, H2.out⟩
    · have hh : hasN d.files n = true := by unfold hasN; rw [hg]; rfl
      have hfo : fileOf d n = f := by unfold fileOf; rw [hg]; rfl
      rw [hh]
      have HFO := Lib.hid hfo
      obtain ⟨g, cap, L, a1, c1, a2, c2, ok, hL, hkl, hlb, hx, h4⟩ := disk_at h2 hg
      obtain ⟨g', hgg, hcells⟩ := file_cells h4.s2 hx
      cases hgg
      obtain ⟨d0, d1, d2, d3⟩ := hcells w2 h4.s2
      have c0 : w2.cell? ⟨p, 0, none⟩ = some (.slice (some ⟨g, 0, none⟩) L.length cap) := h4.cell 0
      have h5 : Sat u w2 (own (bn + 1) (.cells #[.string (str n), .slice none 0 0, .slice none 0 0, .bool false] 75 (0, 0)) * (roB (.slice a1 f.dry.length c1) f.dry * (roB (.slice a2 f.wet.length c2) f.wet * (isD p d * (own bn (.cells #[.string (str n)] 9 (0, 0)) * F))))) := by
        have h6 := roL_dup hx (h4.s3)
        have h7 : Sat u w2 (isD p d * (roB (.slice a1 f.dry.length c1) f.dry * (roB (.slice a2 f.wet.length c2) f.wet * (own (bn + 1) (.cells #[.string (str n), .slice none 0 0, .slice none 0 0, .bool false] 75 (0, 0)) * (own bn (.cells #[.string (str n)] 9 (0, 0)) * F))))) := isD_back ok hL rfl (h6.eq (by ac_rfl))
        exact h7.eq (by ac_rfl)
      have y1 : (posN d.files n : Int) < L.length := by omega
      have k0 := h5.cell 0
      have k1 := h5.cell 1
      have k2 := h5.cell 2
      have k3 := h5.cell 3
      have f0 := h5.free 0
      have f1 := h5.free 1
      have f2 := h5.free 2
      have f3 := h5.free 3
      simp only [List.getElem?_toArray, List.getElem?_cons_zero, List.getElem?_cons_succ] at k0 k1 k2 k3
      have H6 := Lib.hid ((((h5.setCell 0 (.string (str f.name))).setCell 1 (.slice a1 f.dry.length c1)).setCell 2 (.slice a2 f.wet.length c2)).setCell 3 (.bool f.born))
      dsimp only at d0 d1 d2 d3
      generalize posN d.files n = k at y1 d0 d1 d2 d3 ⊢
      clear h2 h4 h5 hcells ok hL hx hg hh hfo
      go_wp2_with fail
      go_meet
      rw [HFO.out]
      exact ⟨_, _, H6.out⟩
  case rest =>
    obtain ⟨dv, wv, h3⟩ := hcut
    clear h2
    have ok := (isD_iff.1 h3.s4).1
    obtain ⟨hfn, hso, hfs⟩ := fileOf_facts ok n
    have hE : appE d n b = if (8388608 : Int) - (fileOf d n).size < b.length then 3 else if d.quota - usedF d.files < b.length then 41 else 0 := by
      unfold appE
      rw [if_neg (by simp [HB.out])]
      rfl
    have hP : appPut d n b = { d with files := putF { fileOf d n with wet := (fileOf d n).wet ++ b } d.files } := rfl
    generalize fileOf d n = f at h3 hfn hso hfs hE hP
    have hused := ok.used
    have hq0 := ok.quota0
    have hq1 := ok.quota1
    obtain ⟨a1, c1, r1, _, _⟩ := RowAt.len h3.right.roB_at
    obtain ⟨a2, c2, r2, _, _⟩ := RowAt.len h3.right.right.roB_at
    subst r1
    subst r2
    have HFN := Lib.hid hfn
    have HSO := Lib.hid hso
    have HE := Lib.hid hE
    have HP := Lib.hid hP
    have OK := Lib.hid ok
    have k0 := h3.cell 0
    have k1 := h3.cell 1
    have k2 := h3.cell 2
    have k3 := h3.cell 3
    simp only [List.getElem?_toArray, List.getElem?_cons_zero, List.getElem?_cons_succ] at k0 k1 k2 k3
    have b1 := h3.right.roB_at
    have b2 := h3.right.right.roB_at
    clear hfn hso hE hP ok
    go_wp2_with fail
    refine (fsize_any u _ _ (str f.name) _ _ f.born f.dry f.wet h3 b1 b2 (by omega) (by omega)).mono ?_
    rintro e w4 ⟨rfl, h4⟩
    dsimp only
    have hsz : f.size = f.dry.length + f.wet.length := rfl
    rw [← hsz] at hfs ⊢
    have HSZ := Lib.hid hsz
    clear h3 k0 k1 k2 k3 b1 b2 hsz
    by_cases hx1 : (8388608 : Int) - f.size < b.length
    · have e := HD.out
      rw [HE.out, if_pos hx1, if_pos (by decide)] at e
      subst e
      have H4 := Lib.hid h4.pick46
      have z1 : IntKind.i64.wrap (8388608 - (f.size : Int)) = 8388608 - (f.size : Int) := by rw [IntKind.wrap_i64]; omega
      clear h4
      go_wp2_with fail
      go_ret
      exact ⟨rfl, H4.out⟩
    · have z1 : IntKind.i64.wrap (8388608 - (f.size : Int)) = 8388608 - (f.size : Int) := by rw [IntKind.wrap_i64]; omega
      have z2 : IntKind.i64.wrap (d.quota - (usedF d.files : Int)) = d.quota - (usedF d.files : Int) := by rw [IntKind.wrap_i64]; omega
      go_wp2_with fail
      refine wp_region_seq [(0, true), (1, true), (2, true), (3, true), (4, true), (5, true), (6, true), (7, false), (8, true), (9, true), (10, true)] (fun x => Sat u x (isD p d * (own (bn + 1) (.cells #[.string (str f.name), .slice a1 f.dry.length c1, .slice a2 f.wet.length c2, .bool f.born] 75 (0, 0)) * (roB (.slice a1 f.dry.length c1) f.dry * (roB (.slice a2 f.wet.length c2) f.wet * (own bn (.cells #[.string (str n)] 9 (0, 0)) * F)))))) (by kernel_rfl) (by kernel_rfl) (fun _ _ _ _ _ h => h) ?_
      simp only [pickOps, Array.getD_eq_getD_getElem?, List.getElem?_toArray, List.getElem?_cons_succ, List.getElem?_cons_zero, Option.getD_some]
      have h5 := h4.s4.drew
      generalize w4.drew = w5 at h5 ⊢
      clear h4
      repeat (first
        | (refine wpSeq_run (by rfl) h5 (fun K hK => ⟨?_, ?_, ?_⟩); rotate_left; (· (intro wS hSw; have c0 := isD_quota hSw; go_simp <;> with_reducible rfl)); simp only [Act.put, List.setIfInBounds_toArray, List.set_cons_zero, List.set_cons_succ]; refine hK _ ?_; clear hK K)
        | (refine wpSeq_skip (by rfl) h5 (fun K hK => ?_); simp only [Act.put, List.setIfInBounds_toArray, List.set_cons_zero, List.set_cons_succ]; refine hK _ ?_; clear hK K))
      refine wpSeq_act (by rfl) (fun K hK => ?_)
      go_simp
      refine (used_any u _ _ p d h5).mono ?_
      rintro e w6 ⟨rfl, h6⟩
      try dsimp only
      try simp only [Act.put, List.setIfInBounds_toArray, List.set_cons_zero, List.set_cons_succ]
      refine hK _ _ (_) ((fun _ h => h)) h6 ?_
      clear hK K
      repeat (first
        | (refine wpSeq_run (by rfl) h6 (fun K hK => ⟨?_, ?_, ?_⟩); rotate_left; (· (intro wS hSw; have c0 := isD_quota hSw; go_simp <;> with_reducible rfl)); simp only [Act.put, List.setIfInBounds_toArray, List.set_cons_zero, List.set_cons_succ]; refine hK _ ?_; clear hK K)
        | (refine wpSeq_skip (by rfl) h6 (fun K hK => ?_); simp only [Act.put, List.setIfInBounds_toArray, List.set_cons_zero, List.set_cons_succ]; refine hK _ ?_; clear hK K))
      refine wpSeq_end ?_
      clear h5
      by_cases hx2 : d.quota - (usedF d.files : Int) < b.length
      · have e := HD.out
        have e2 : appE d n b = 41 := by rw [HE.out, if_neg (by omega), if_pos hx2]
        rw [e2, if_pos (by decide)] at e
        subst e
        have H6 := Lib.hid (h6.eq (show _ = own (bn + 1) _ * (roB _ _ * (roB _ _ * (own bn _ * (isD p d * F)))) by ac_rfl)).right.right.right.right
        clear h6
        go_wp2_with fail
        go_ret
        exact ⟨rfl, H6.out⟩
      · have e := HD.out
        have e2 : appE d n b = 0 := by rw [HE.out, if_neg (by omega), if_neg hx2]
        rw [e2, if_neg (by decide)] at e
        have HR := Lib.hid e
        clear e HD e2
        have h7 : Sat u w6 (own (bn + 1) (.cells #[.string (str f.name), .slice a1 f.dry.length c1, .slice a2 f.wet.length c2, .bool f.born] 75 (0, 0)) * (isD p d * (roB (.slice a1 f.dry.length c1) f.dry * (roB (.slice a2 f.wet.length c2) f.wet * (own bn (.cells #[.string (str n)] 9 (0, 0)) * F))))) := h6.s2
        have k2 := h7.cell 2
        simp only [List.getElem?_toArray, List.getElem?_cons_zero, List.getElem?_cons_succ] at k2
        have h8 := h7.alloc (.cells #[.slice a2 f.wet.length c2, .slice a b.length c] 34)
        clear h6
        go_wp2_with fail
        refine (concat_any u _ _ w6.heap.size _ _ f.wet b (by have := HSZ.out; omega) (by omega) h8 (fun w' h => ⟨h.cell 0, h.cell 1, h.right.right.right.right.roB_at, HKB.out w' h.right.right.right.right.right.right⟩)).mono ?_
        rintro e w7 ⟨a5, c5, rfl, h9⟩
        dsimp only
        have h10 : Sat u w7 (own (bn + 1) (.cells #[.string (str f.name), .slice a1 f.dry.length c1, .slice a2 f.wet.length c2, .bool f.born] 75 (0, 0)) * (ownB (.slice a5 (f.wet ++ b).length c5) (f.wet ++ b) * (own w6.heap.size (.cells #[.slice a2 f.wet.length c2, .slice a b.length c] 34 (0, 0)) * (isD p d * (roB (.slice a1 f.dry.length c1) f.dry * (roB (.slice a2 f.wet.length c2) f.wet * (own bn (.cells #[.string (str n)] 9 (0, 0)) * F))))))) := h9.s3
        clear h7 h8 h9 k2
        have k2 := h10.cell 2
        have f2 := h10.free 2
        have h11 := h10.setCell 2 (.slice a5 (f.wet ++ b).length c5)
        have k0 := h11.cell 0
        have k1 := h11.cell 1
        have k2' := h11.cell 2
        have k3 := h11.cell 3
        simp only [List.getElem?_toArray, List.getElem?_cons_zero, List.getElem?_cons_succ, List.setIfInBounds_toArray, List.set_cons_zero, List.set_cons_succ] at k0 k1 k2 k2' k3
        have h12 : Sat u (w7.setCell ⟨bn + 1, 2, none⟩ (.slice a5 (f.wet ++ b).length c5)) (isD p d * (roB (.slice a1 f.dry.length c1) f.dry * (roB (.slice a5 (f.wet ++ b).length c5) (f.wet ++ b) * (own (bn + 1) (.cells #[.string (str f.name), .slice a1 f.dry.length c1, .slice a5 (f.wet ++ b).length c5, .bool f.born] 75 (0, 0)) * (own w6.heap.size (.cells #[.slice a2 f.wet.length c2, .slice a b.length c] 34 (0, 0)) * (roB (.slice a2 f.wet.length c2) f.wet * (own bn (.cells #[.string (str n)] 9 (0, 0)) * F))))))) :=
          (Sat.roB_own h11.s2).eq (by show _ * (own (bn + 1) (.cells #[.string (str f.name), .slice a1 f.dry.length c1, .slice a5 (f.wet ++ b).length c5, .bool f.born] 75 (0, 0)) * _) = _; ac_rfl)
        clear h10 h11
        generalize hwl : (f.wet ++ b).length = wl at *
        have HWL := Lib.hid hwl
        clear hwl
        have hfl : ({ f with wet := f.wet ++ b } : FileP).size = f.size + b.length := by
          show f.dry.length + (f.wet ++ b).length = _
          rw [List.length_append, HSZ.out]
          omega
        have OK2 := Lib.hid (okD_put OK.out { f with wet := f.wet ++ b } (by rw [hfl]; omega) (by rw [hfl]; show _ ≤ d.quota + (sizeO (getF d.files f.name) : Int); rw [HFN.out, HSO.out]; omega) hmany)
        clear hfl
        go_wp2_with fail
        refine (lay_any u _ _ p d { f with wet := f.wet ++ b } _ _ OK2.out h12).mono ?_
        rintro e w8 ⟨rfl, h13⟩
        clear h12 k0 k1 k2 k2' k3 f2
        rw [show ({ d with files := putF { f with wet := f.wet ++ b } d.files } : DiskP) = appPut d n b from HP.out.symm] at h13 OK2
        have h14 := h13
        clear h13 HP HE
        generalize appPut d n b = d2 at h14 HR
        dsimp only
        go_wp2_with fail
        refine (dstep_any u _ _ p d2 h14).mono ?_
        rintro e w9 ⟨rfl, h15⟩
        have H15 := Lib.hid (h15.eq (show _ = own (bn + 1) _ * (own w6.heap.size _ * (roB _ _ * (own bn _ * (isD p (stepD d2) * F)))) by ac_rfl)).right.right.right.right
        clear h14 h15
        rcases hst : stepOk d2 with _ | _
        · have e := HR.out
          rw [hst, if_neg (by decide)] at e
          subst e
          clear hst
          go_wp2_with fail
          go_ret
          exact ⟨rfl, H15.out⟩
        · have e := HR.out
          rw [hst, if_pos rfl] at e
          subst e
          clear hst
          go_wp2_with fail
          go_ret
          exact ⟨rfl, H15.out⟩
end
end Go.Proofs.YtlfmkiclaijokaaGreatDoor

namespace Go.Proofs.YtlfmkiclaijokaaGreatDoor
open Go.RowKit
set_option linter.unusedVariables false

/-- Numbers, where they lie. -/
def IntsAt (w : World) (v : Value) (xs : List Int) : Prop := RowAt w v xs.length (xs.map fun x => Value.int .i64 x)

theorem Sat.rot3 {u w : World} {A B C X : HProp} (h : Sat u w (A * (B * (C * X)))) : Sat u w (B * (C * (A * X))) := h.eq (by ac_rfl)
theorem Sat.keep21 {u w : World} {A B C D X : HProp} (h : Sat u w (A * (B * (C * (D * X))))) : Sat u w (B * (A * X)) := (h.eq (show _ = C * (D * (B * (A * X))) by ac_rfl)).right.right

theorem row_snoc {u w : World} {G : HProp} {M : List FileV} {x : FileV} {a : Option Addr} {c : Nat} (hw : x.1.wet = [] ∧ x.2.2 = .slice none 0 0)
    (h : Sat u w (ownRow 75 4 (.slice a (M.length + 1) c) (M.length + 1) (cellsL M ++ cellsV x) * (roL M * (roB x.2.1 x.1.dry * G)))) :
    Sat u w (ownRow 75 4 (.slice a (M ++ [x]).length c) (M ++ [x]).length (cellsL (M ++ [x])) * (roL (M ++ [x]) * G)) := by
  have e1 : (M ++ [x]).length = M.length + 1 := by simp
  have e2 : cellsL (M ++ [x]) = cellsL M ++ cellsV x := by rw [cellsL_append]; show _ ++ (cellsV x ++ []) = _; rw [List.append_nil]
  rw [e1, e2, roL_append]
  have h2 : Sat u w (roB (.slice none 0 0) [] * (ownRow 75 4 (.slice a (M.length + 1) c) (M.length + 1) (cellsL M ++ cellsV x) * (roL M * (roB x.2.1 x.1.dry * G)))) := h.roB_nil
  have h3 : Sat u w (fact True * _) := Sat.fact_iff.2 ⟨trivial, h2⟩
  refine h3.eq ?_
  show _ = _ * (roL M * (roB _ _ * (roB _ _ * fact True)) * G)
  rw [hw.1, hw.2]
  ac_rfl

section
variable (u w : World) (F : HProp) (p : Nat) (d : DiskP) (keep : List Int)

set_option maxRecDepth 100000 in
set_option maxHeartbeats 8000000 in
theorem don_any (a : Option Addr) (c : Nat) (hk : ∀ w', Sat u w' F → IntsAt w' (.slice a keep.length c) keep) (hkl : keep.length ≤ 1000000000) (hr : ∀ x ∈ keep, -9223372036854775808 ≤ x ∧ x ≤ 9223372036854775807) (hs : Sat u w (isD p d * F)) :
    Calls Tryz.prog 27 #[.pointer (some ⟨p, 0, none⟩), .slice a keep.length c] w
      fun e w' => e = .returned (.tuple #[]) ∧ Sat u w' (isD p (onD d keep) * F) := by
  obtain ⟨i0, hi, hz0, hz1, hz2⟩ := info_parts info_file3
  obtain ⟨ok, v, h2⟩ := isD_iff.1 hs
  have c3 := h2.cell 3
  have f3 := h2.free 3
  have h3 := h2.setCell 3 (.int .i64 (-1))
  have OKON := Lib.hid (okD_on ok keep)
  by_cases ho : d.off = true
  case neg =>
    have ho2 : d.off = false := by simpa using ho
    have c4 := h3.cell 4
    simp only [headD, ho2, List.getElem?_toArray, List.getElem?_cons_zero, List.getElem?_cons_succ, List.setIfInBounds_toArray, List.set_cons_zero, List.set_cons_succ] at c3 c4
    have hR : onD d keep = { d with set := -1 } := by unfold onD; rw [if_neg ho]
    rw [hR] at OKON
    have H3 := Lib.hid (isD_iff.2 ⟨OKON.out, v, h3⟩)
    rw [hR]
    clear hs h2 h3 ho ho2 hR ok
    go_enter Tryz.func27, Tryz.ntmps27
    go_wp2_with fail
    refine bodyPost_ret (results_none rfl _ _ _) rfl ?_
    exact ⟨rfl, H3.out⟩
  have c4 := h3.cell 4
  have c0 := h3.cell 0
  simp only [headD, ho, List.getElem?_toArray, List.getElem?_cons_zero, List.getElem?_cons_succ, List.setIfInBounds_toArray, List.set_cons_zero, List.set_cons_succ] at c3 c4 c0
  have hR : onD d keep = { d with files := onFiles keep 0 d.files, set := -1, off := false } := by unfold onD; rw [if_pos ho]
  rw [hR] at OKON
  rw [hR]
  obtain ⟨L, hL, h4⟩ := isFiles_iff.1 h3.s2
  obtain ⟨a1, c1, rfl, hc1, hc2⟩ := h4.row_at.len
  have hlen : L.length = d.files.length := by rw [← hL, List.length_map]
  have hlb : L.length ≤ 1000000 := by have := ok.many; omega
  have OK := Lib.hid ok
  have HL := Lib.hid hL
  have HLE := Lib.hid hlen
  have HK := Lib.hid hk
  have HKR := Lib.hid hr
  have h5 : Sat u (w.setCell ⟨p, 3, none⟩ (.int .i64 (-1))) (ownRow 75 4 (.slice none 0 0) 0 (cellsL []) * (roL [] * (ownRow 75 4 (.slice a1 L.length c1) L.length (cellsL L) * (roL L * (own p (headD (.slice a1 L.length c1) { d with set := -1 }) * F))))) := Sat.row_nil (Sat.fact_iff.2 ⟨trivial, h4⟩)
  clear hs h2 h3 ho hR ok hL hlen hk hr h4
  go_enter Tryz.func27, Tryz.ntmps27
  go_wp2_with fail
  clear c0 c3 c4 f3
  go_loopw [4, 24] (fun t4 t24 wr => ∃ k : Nat, k ≤ L.length ∧ t24 = .int .i64 k ∧ ∃ (M : List FileV) (a' : Option Addr) (c' : Nat), M.map (·.1) = onFiles keep 0 (d.files.take k) ∧ M.length ≤ k ∧ t4 = .slice a' M.length c' ∧ Sat u wr (ownRow 75 4 (.slice a' M.length c') M.length (cellsL M) * (roL M * (ownRow 75 4 (.slice a1 L.length c1) L.length (cellsL L) * (roL L * (own p (headD (.slice a1 L.length c1) { d with set := -1 }) * F)))))) (fun _ t _ => L.length - (intOf t).toNat)
  case atStart => exact ⟨0, Nat.zero_le _, rfl, [], none, 0, rfl, Nat.le_refl _, rfl, h5⟩
  case round =>
    clear h5
    obtain ⟨k, hk, rfl, M, a', c', hM, hMk, rfl, h6⟩ := hrel
    by_cases hlt : k < L.length
    · obtain ⟨x, hx⟩ : ∃ x, L[k]? = some x := ⟨L[k]'(by omega), List.getElem?_eq_getElem _⟩
      have hfx : d.files[k]? = some x.1 := by rw [← HL.out, List.getElem?_map, hx]; rfl
      obtain ⟨hfl, hfe⟩ := List.getElem?_eq_some_iff.1 hfx
      have hM2 : onFiles keep 0 (d.files.take (k + 1)) = M.map (·.1) ++ (if (onFile keep k x.1).born then [onFile keep k x.1] else []) := by
        rw [List.take_succ_eq_append_getElem hfl, hfe, onFiles_append, ← hM, List.length_take, Nat.min_eq_left (by omega), Nat.zero_add]
      have HM2 := Lib.hid hM2
      have h7 : Sat u wr (ownRow 75 4 (.slice a1 L.length c1) L.length (cellsL L) * (roL L * (ownRow 75 4 (.slice a' M.length c') M.length (cellsL M) * (roL M * (own p (headD (.slice a1 L.length c1) { d with set := -1 }) * F))))) := h6.eq (by ac_rfl)
      obtain ⟨g, rfl, hcells⟩ := file_cells h7 hx
      obtain ⟨d0, d1, d2, d3⟩ := hcells wr h7
      obtain ⟨b1, b2⟩ := roL_at h7.right hx
      obtain ⟨aa, ca, hva, hca, _⟩ := RowAt.len b1
      obtain ⟨ab, cb, hvb, hcb, hcb2⟩ := RowAt.len b2
      have hfs := OK.out.size x.1 (List.mem_of_getElem? hfx)
      unfold FileP.size at hfs
      have y1 : (k : Int) < L.length := by omega
      obtain ⟨f, v1, v2⟩ := x
      dsimp only at hva hvb hca hcb d0 d1 d2 d3 hfs HM2
      subst hva
      subst hvb
      have h8 := roL_dup hx h7.s2
      have h9 : Sat u wr (roB (.slice aa f.dry.length ca) f.dry * (roB (.slice ab f.wet.length cb) f.wet * (ownRow 75 4 (.slice (some ⟨g, 0, none⟩) L.length c1) L.length (cellsL L) * (roL L * (ownRow 75 4 (.slice a' M.length c') M.length (cellsL M) * (roL M * (own p (headD (.slice (some ⟨g, 0, none⟩) L.length c1) { d with set := -1 }) * F))))))) := h8.eq (by ac_rfl)
      clear hcells hfx hx b1 b2 hfl hfe hM hM2 h6 h7 h8
      have h10 := h9.alloc (.cells #[.string (str f.name), .slice aa f.dry.length ca, .slice ab f.wet.length cb, .bool f.born] 75)
      go_upto_if 32 with fail
      go_cut [7, 8] (fun s7 _ wx => s7 = .int .i64 (staysN keep k f.wet.length : Nat) ∧ Sat u wx (own wr.heap.size (.cells #[.string (str f.name), .slice aa f.dry.length ca, .slice ab f.wet.length cb, .bool f.born] 75 (0, 0)) * (roB (.slice aa f.dry.length ca) f.dry * (roB (.slice ab f.wet.length cb) f.wet * (ownRow 75 4 (.slice (some ⟨g, 0, none⟩) L.length c1) L.length (cellsL L) * (roL L * (ownRow 75 4 (.slice a' M.length c') M.length (cellsL M) * (roL M * (own p (headD (.slice (some ⟨g, 0, none⟩) L.length c1) { d with set := -1 }) * F)))))))))
      case first J K' hJ hmet =>
        have hka := HK.out _ h10.right.right.right.right.right.right.right.right
        rcases hq : keep[k]? with _ | q
        · have hst : staysN keep k f.wet.length = 0 := by unfold staysN; rw [hq]
          have hle : keep.length ≤ k := List.getElem?_eq_none_iff.1 hq
          have y2 : ¬ ((k : Int) < keep.length) := by omega
          have HST := Lib.hid hst
          have H10 := Lib.hid h10
          clear hst hq hka h9 h10 d0 d1 d2 d3
          go_wp2_with fail
          go_meet
          exact ⟨by rw [HST.out]; rfl, H10.out⟩
        · have hst : staysN keep k f.wet.length = (q % ((f.wet.length : Int) + 1)).toNat := by unfold staysN; rw [hq]
          have hlt2 : k < keep.length := (List.getElem?_eq_some_iff.1 hq).1
          have y2 : (k : Int) < keep.length := by omega
          have hqr := HKR.out q (List.mem_of_getElem? hq)
          obtain ⟨q1, q2, q3⟩ := rem_twice q (f.wet.length + 1) (by omega)
          rw [show ((f.wet.length + 1 : Nat) : Int) = (f.wet.length : Int) + 1 from by omega] at q1 q2 q3
          have k2 := h10.cell 2
          simp only [List.getElem?_toArray, List.getElem?_cons_zero, List.getElem?_cons_succ] at k2
          rcases hka with ⟨_, hz, _⟩ | ⟨ad, cd, hva, _, _, hcell⟩
          · omega
          · cases hva
            have e0 := hcell k (.int .i64 q) (by rw [List.getElem?_map, hq]; rfl)
            have HST := Lib.hid hst
            have H10 := Lib.hid h10
            have Q3 := Lib.hid q3
            clear hst hq h9 h10 d0 d1 d2 d3 hcell q3
            have z1 : IntKind.i64.wrap ((f.wet.length : Int) + 1) = (f.wet.length : Int) + 1 := by rw [IntKind.wrap_i64]; omega
            go_wp2_with fail
            go_meet
            refine ⟨?_, H10.out⟩
            rw [HST.out]
            congr 1
            have e9 : q.tmod ((f.wet.length : Int) + 1) % ((f.wet.length : Int) + 1) = q % ((f.wet.length : Int) + 1) := by
              have := Q3.out
              rwa [Int.tmod_eq_emod_of_nonneg (by omega), Int.add_emod_right] at this
            first | rw [e9] | rw [Int.add_emod_right, e9]
            rw [Int.toNat_of_nonneg (Int.emod_nonneg _ (by omega))]
      case rest =>
        obtain ⟨rfl, h11⟩ := hcut
        have hstl : staysN keep k f.wet.length ≤ f.wet.length := by
          unfold staysN
          split
          · exact Nat.zero_le _
          · next q _ =>
            have h1 := Int.emod_nonneg q (show ((f.wet.length : Int) + 1) ≠ 0 by omega)
            have h2 := Int.emod_lt_of_pos q (show (0 : Int) < (f.wet.length : Int) + 1 by omega)
            omega
        have hof : onFile keep k f = { f with dry := f.dry ++ f.wet.take (staysN keep k f.wet.length), wet := [], born := f.born || decide (0 < (f.dry ++ f.wet.take (staysN keep k f.wet.length)).length) } := rfl
        rw [hof] at HM2
        generalize staysN keep k f.wet.length = s at h11 hstl HM2
        clear h9 h10 d0 d1 d2 d3 hof
        generalize wr.heap.size = bf at h11 ⊢
        have hwl : f.wet.length ≤ 8388608 := by omega
        have y3 : (s : Int) ≤ cb := by omega
        have ha2 := h11.right.right.roB_at
        go_wp2_with fail
        refine wp_region_mid 9 [(0, true), (1, true), (2, true), (3, true), (4, true), (5, true), (6, false), (7, false), (8, true)] [9, 10, 11] (fun x => Sat u x (own bf (.cells #[.string (str f.name), .slice aa f.dry.length ca, .slice ab f.wet.length cb, .bool f.born] 75 (0, 0)) * (roB (.slice aa f.dry.length ca) f.dry * (roB (.slice ab f.wet.length cb) f.wet * (ownRow 75 4 (.slice (some ⟨g, 0, none⟩) L.length c1) L.length (cellsL L) * (roL L * (ownRow 75 4 (.slice a' M.length c') M.length (cellsL M) * (roL M * (own p (headD (.slice (some ⟨g, 0, none⟩) L.length c1) { d with set := -1 }) * F))))))))) (by kernel_rfl) (by kernel_rfl) (fun _ _ _ _ _ h => h) ?_
        simp only [pickOps, pickTail, List.map_cons, List.map_nil, Array.getD_eq_getD_getElem?, List.getElem?_toArray, List.getElem?_cons_succ, List.getElem?_cons_zero, Option.getD_some]
        have h12 := h11.drew
        generalize wc.drew = w1 at h12 ⊢
        clear h11
        repeat (first
          | (refine wpSeqN_run (by rfl) h12 (fun K hK => ⟨?_, ?_, ?_⟩); rotate_left; (· (intro wS hSw; have e1 : wS.cell? ⟨bf, 1, none⟩ = some (.slice aa f.dry.length ca) := hSw.cell 1; have e2 : wS.cell? ⟨bf, 2, none⟩ = some (.slice ab f.wet.length cb) := hSw.cell 2; go_simp <;> with_reducible rfl)); simp only [Act.put, List.setIfInBounds_toArray, List.set_cons_zero, List.set_cons_succ]; refine hK _ ?_; clear hK K)
          | (refine wpSeqN_skip (by rfl) h12 (fun K hK => ?_); simp only [Act.put, List.setIfInBounds_toArray, List.set_cons_zero, List.set_cons_succ]; refine hK _ ?_; clear hK K))
        have h13 := h12.alloc (.cells #[.slice aa f.dry.length ca, .slice ab s cb] 34)
        refine wpSeqN_act (by rfl) (fun K hK => ?_)
        go_simp
        try dsimp only
        try simp only [Act.put, List.setIfInBounds_toArray, List.set_cons_zero, List.set_cons_succ]
        refine hK _ _ (_) ((fun _ h => h)) h13.right ?_
        clear hK K
        refine wpSeqN_act (by rfl) (fun K hK => ?_)
        go_simp
        refine (concat_any u _ _ w1.heap.size _ _ f.dry (f.wet.take s) (by omega) (by rw [List.length_take]; omega) h13 (fun w' h => ⟨h.cell 0, h.cell 1, h.right.right.roB_at, (roB_take s hstl h.right.right.right).roB_at⟩)).mono ?_
        rintro e w2 ⟨a3, c3, rfl, h14⟩
        have h15 := h14.right.right
        try dsimp only
        try simp only [Act.put, List.setIfInBounds_toArray, List.set_cons_zero, List.set_cons_succ]
        refine hK _ _ (_) ((fun _ h => h)) h15 ?_
        clear hK K
        repeat (first
          | (refine wpSeqN_run (by rfl) h15 (fun K hK => ⟨?_, ?_, ?_⟩); rotate_left; (· (intro wS hSw; go_simp <;> with_reducible rfl)); simp only [Act.put, List.setIfInBounds_toArray, List.set_cons_zero, List.set_cons_succ]; refine hK _ ?_; clear hK K)
          | (refine wpSeqN_skip (by rfl) h15 (fun K hK => ?_); simp only [Act.put, List.setIfInBounds_toArray, List.set_cons_zero, List.set_cons_succ]; refine hK _ ?_; clear hK K))
        refine wpSeqN_tail ?_
        clear h12 h13
        generalize hwl2 : (f.dry ++ f.wet.take s).length = dl at h14 ⊢
        have HDL := Lib.hid hwl2
        have k1 := h15.cell 1
        have k2 := h15.cell 2
        have k3 := h15.cell 3
        have f1 := h15.free 1
        have f2 := h15.free 2
        have f3 := h15.free 3
        simp only [List.getElem?_toArray, List.getElem?_cons_zero, List.getElem?_cons_succ] at k1 k2 k3
        have h16 : Sat u w2 (own bf (.cells #[.string (str f.name), .slice aa f.dry.length ca, .slice ab f.wet.length cb, .bool f.born] 75 (0, 0)) * (ownB (.slice a3 dl c3) (f.dry ++ f.wet.take s) * (roL M * (ownRow 75 4 (.slice a' M.length c') M.length (cellsL M) * (own w1.heap.size (.cells #[.slice aa f.dry.length ca, .slice ab s cb] 34 (0, 0)) * (roB (.slice aa f.dry.length ca) f.dry * (roB (.slice ab f.wet.length cb) f.wet * (ownRow 75 4 (.slice (some ⟨g, 0, none⟩) L.length c1) L.length (cellsL L) * (roL L * (own p (headD (.slice (some ⟨g, 0, none⟩) L.length c1) { d with set := -1 }) * F)))))))))) := h14.eq (by ac_rfl)
        have h17 := (h16.setCell 1 (.slice a3 dl c3)).setCell 2 (.slice none 0 0)
        clear h14 h15 h16 hwl2
        refine wpSeqF_act (by rfl) (fun K hK => ?_)
        go_simp
        try simp only [Act.put, List.setIfInBounds_toArray, List.set_cons_zero, List.set_cons_succ]
        refine hK _ _ ?_
        clear hK K
        refine wpSeqF_act (by rfl) (fun K hK => ?_)
        go_simp
        try simp only [Act.put, List.setIfInBounds_toArray, List.set_cons_zero, List.set_cons_succ]
        refine hK _ _ ?_
        clear hK K
        refine wpSeqF_act (by rfl) (fun K hK => ?_)
        go_simp
        try simp only [Act.put, List.setIfInBounds_toArray, List.set_cons_zero, List.set_cons_succ]
        refine hK _ _ ?_
        clear hK K
        refine wpSeqF_end ?_
        have h18 := (h17.eq (by rfl) : Sat u _ (own bf (.cells #[.string (str f.name), .slice a3 dl c3, .slice none 0 0, .bool f.born] 75 (0, 0)) * _))
        clear h17 k1 k2 k3 f1 f2 f3 ha2
        generalize (w2.setCell ⟨bf, 1, none⟩ (.slice a3 dl c3)).setCell ⟨bf, 2, none⟩ (.slice none 0 0) = w3 at h18 ⊢
        have k1 := h18.cell 1
        have k3 := h18.cell 3
        have f3 := h18.free 3
        simp only [List.getElem?_toArray, List.getElem?_cons_zero, List.getElem?_cons_succ] at k1 k3
        have h19 := h18.setCell 3 (.bool true)
        have h20 := h18.setCell 3 (.bool false)
        rcases hb : f.born with _ | _
        · rw [hb] at k3 HM2
          by_cases hdl : 0 < dl
          · clear h20
            have y4 : (0 : Int) < dl := by omega
            go_upto_region 13 with fail
            generalize w3.setCell ⟨bf, 3, none⟩ (.bool true) = w4 at h19 ⊢
            have h21 : Sat u w4 (own bf (.cells #[.string (str f.name), .slice a3 dl c3, .slice none 0 0, .bool true] 75 (0, 0)) * _) := h19
            have h22 : Sat u w4 (ownRow 5 1 (.slice a3 dl c3) (f.dry ++ f.wet.take s).length ((f.dry ++ f.wet.take s).map B) * _) := h21.right
            have h23 : Sat u w4 (own w1.heap.size (.cells #[.slice aa f.dry.length ca, .slice ab s cb] 34 (0, 0)) * (roB (.slice aa f.dry.length ca) f.dry * (roB (.slice ab f.wet.length cb) f.wet * (ownRow 75 4 (.slice a' M.length c') M.length (cellsL M) * (roL M * (roB (.slice a3 dl c3) (f.dry ++ f.wet.take s) * (ownRow 75 4 (.slice (some ⟨g, 0, none⟩) L.length c1) L.length (cellsL L) * (roL L * (own p (headD (.slice (some ⟨g, 0, none⟩) L.length c1) { d with set := -1 }) * F))))))))) := h22.roB_own.eq (by ac_rfl)
            have h24 := h23.right.right.right
            clear h18 h19 k1 k3 f3 h22 h23
            have k0 := h21.cell 0
            have k1 := h21.cell 1
            have k2 := h21.cell 2
            have k3 := h21.cell 3
            simp only [List.getElem?_toArray, List.getElem?_cons_zero, List.getElem?_cons_succ] at k0 k1 k2 k3
            have h25 := h24.alloc (.cells #[.string (str f.name), .slice a3 dl c3, .slice none 0 0, .bool true] 75)
            clear h21 h24
            go_wp2_with (at_builtin; refine wpList_append_sl rfl _ _ 52 rfl i0 fileZ Tryz.underlying52 hi hz0 hz1 hz2 rfl (by decide) rfl rfl h25.right (x := .slice (some ⟨w4.heap.size, 0, none⟩) 1 1) (m := 1) (news := [.string (str f.name), .slice a3 dl c3, .slice none 0 0, .bool true]) (.inr ⟨_, _, rfl, Nat.le_refl _, by decide, fun j y hy => by rw [addr_add, h25.cell]; simpa using hy⟩) rfl (by intro q hq; simp only [List.mem_cons, List.not_mem_nil, or_false] at hq; rcases hq with rfl | rfl | rfl | rfl <;> rfl) (by omega) ?_; intro a4 c4 w5 h26 hx; clear hx)
            clear k0 k1 k2 k3
            go_roundw
            case rel =>
              refine ⟨k + 1, by omega, by go_num, M ++ [({ f with dry := f.dry ++ f.wet.take s, wet := [], born := true }, .slice a3 dl c3, .slice none 0 0)], a4, c4, ?_, by simp; omega, ?_, row_snoc (x := ({ f with dry := f.dry ++ f.wet.take s, wet := [], born := true }, .slice a3 dl c3, .slice none 0 0)) ⟨rfl, rfl⟩ h26⟩
              · have hB : (false || decide (0 < (f.dry ++ f.wet.take s).length)) = true := by rw [HDL.out]; simpa using hdl
                rw [HM2.out, List.map_append]
                rw [hB, if_pos rfl]
                rfl
              · simp
            case measure => simp [intOf]; omega
          · clear h19
            have hdl0 : dl = 0 := by omega
            have y4 : ¬ ((0 : Int) < dl) := by omega
            have HD0 := Lib.hid hdl0
            clear hdl0
            go_upto_region 13 with fail
            generalize w3.setCell ⟨bf, 3, none⟩ (.bool false) = w4 at h20 ⊢
            have h21 : Sat u w4 (own bf (.cells #[.string (str f.name), .slice a3 dl c3, .slice none 0 0, .bool false] 75 (0, 0)) * _) := h20
            clear k1 k3 f3
            have k3 := h21.cell 3
            simp only [List.getElem?_toArray, List.getElem?_cons_zero, List.getElem?_cons_succ] at k3
            have h22 : Sat u w4 (ownB (.slice a3 dl c3) (f.dry ++ f.wet.take s) * (own w1.heap.size (.cells #[.slice aa f.dry.length ca, .slice ab s cb] 34 (0, 0)) * (roB (.slice aa f.dry.length ca) f.dry * (roB (.slice ab f.wet.length cb) f.wet * (ownRow 75 4 (.slice a' M.length c') M.length (cellsL M) * (roL M * (ownRow 75 4 (.slice (some ⟨g, 0, none⟩) L.length c1) L.length (cellsL L) * (roL L * (own p (headD (.slice (some ⟨g, 0, none⟩) L.length c1) { d with set := -1 }) * F))))))))) := h21.right.eq (by ac_rfl)
            have h23 := h22.right.right.right.right
            clear h18 h20 h21 h22
            go_wp2_with fail
            go_roundw
            case rel =>
              refine ⟨k + 1, by omega, by go_num, M, a', c', ?_, by omega, rfl, h23⟩
              have hB : (false || decide (0 < (f.dry ++ f.wet.take s).length)) = false := by rw [HDL.out, HD0.out]; rfl
              rw [HM2.out, hB, if_neg (by decide), List.append_nil]
            case measure => simp [intOf]; omega
        · rw [hb] at k3 HM2
          clear hb h20
          go_upto_region 13 with fail
          generalize w3.setCell ⟨bf, 3, none⟩ (.bool true) = w4 at h19 ⊢
          have h21 : Sat u w4 (own bf (.cells #[.string (str f.name), .slice a3 dl c3, .slice none 0 0, .bool true] 75 (0, 0)) * _) := h19
          have h22 : Sat u w4 (ownRow 5 1 (.slice a3 dl c3) (f.dry ++ f.wet.take s).length ((f.dry ++ f.wet.take s).map B) * _) := h21.right
          have h23 : Sat u w4 (own w1.heap.size (.cells #[.slice aa f.dry.length ca, .slice ab s cb] 34 (0, 0)) * (roB (.slice aa f.dry.length ca) f.dry * (roB (.slice ab f.wet.length cb) f.wet * (ownRow 75 4 (.slice a' M.length c') M.length (cellsL M) * (roL M * (roB (.slice a3 dl c3) (f.dry ++ f.wet.take s) * (ownRow 75 4 (.slice (some ⟨g, 0, none⟩) L.length c1) L.length (cellsL L) * (roL L * (own p (headD (.slice (some ⟨g, 0, none⟩) L.length c1) { d with set := -1 }) * F))))))))) := h22.roB_own.eq (by ac_rfl)
          have h24 := h23.right.right.right
          clear h18 h19 k1 k3 f3 h22 h23
          have k0 := h21.cell 0
          have k1 := h21.cell 1
          have k2 := h21.cell 2
          have k3 := h21.cell 3
          simp only [List.getElem?_toArray, List.getElem?_cons_zero, List.getElem?_cons_succ] at k0 k1 k2 k3
          have h25 := h24.alloc (.cells #[.string (str f.name), .slice a3 dl c3, .slice none 0 0, .bool true] 75)
          clear h21 h24
          go_wp2_with (at_builtin; refine wpList_append_sl rfl _ _ 52 rfl i0 fileZ Tryz.underlying52 hi hz0 hz1 hz2 rfl (by decide) rfl rfl h25.right (x := .slice (some ⟨w4.heap.size, 0, none⟩) 1 1) (m := 1) (news := [.string (str f.name), .slice a3 dl c3, .slice none 0 0, .bool true]) (.inr ⟨_, _, rfl, Nat.le_refl _, by decide, fun j y hy => by rw [addr_add, h25.cell]; simpa using hy⟩) rfl (by intro q hq; simp only [List.mem_cons, List.not_mem_nil, or_false] at hq; rcases hq with rfl | rfl | rfl | rfl <;> rfl) (by omega) ?_; intro a4 c4 w5 h26 hx; clear hx)
          clear k0 k1 k2 k3
          go_roundw
          case rel =>
            refine ⟨k + 1, by omega, by go_num, M ++ [({ f with dry := f.dry ++ f.wet.take s, wet := [], born := true }, .slice a3 dl c3, .slice none 0 0)], a4, c4, ?_, by simp; omega, ?_, row_snoc (x := ({ f with dry := f.dry ++ f.wet.take s, wet := [], born := true }, .slice a3 dl c3, .slice none 0 0)) ⟨rfl, rfl⟩ h26⟩
            · have hB : (true || decide (0 < (f.dry ++ f.wet.take s).length)) = true := by rw [HDL.out]; simp
              rw [HM2.out, List.map_append]
              rw [hB, if_pos rfl]
              rfl
            · simp
          case measure => simp [intOf]; omega
    · have e : k = L.length := by omega
      subst e
      have htk : d.files.take L.length = d.files := List.take_of_length_le (by rw [HLE.out]; exact Nat.le_refl _)
      rw [htk] at hM
      have HM := Lib.hid hM
      clear htk hM
      have h7 : Sat u wr (own p (headD (.slice a1 L.length c1) { d with set := -1 }) * (ownRow 75 4 (.slice a' M.length c') M.length (cellsL M) * (roL M * (ownRow 75 4 (.slice a1 L.length c1) L.length (cellsL L) * (roL L * F))))) := h6.eq (by ac_rfl)
      have c0 := h7.cell 0
      have c4 := h7.cell 4
      have f0 := h7.free 0
      have f4 := h7.free 4
      have h8 := (h7.setCell 0 (.slice a' M.length c')).setCell 4 (.bool false)
      have H9 := Lib.hid (isFiles_iff.2 ⟨M, HM.out, h8.rot3⟩)
      simp only [headD, List.getElem?_toArray, List.getElem?_cons_zero, List.getElem?_cons_succ] at c0 c4
      clear h6 h7 h8
      go_wp2_with fail
      go_end0
      refine ⟨rfl, isD_iff.2 ⟨OKON.out, .slice a' M.length c', ?_⟩⟩
      exact H9.out.keep21
end
end Go.Proofs.YtlfmkiclaijokaaGreatDoor

namespace Go.Proofs.YtlfmkiclaijokaaGreatDoor
open Go.RowKit
set_option linter.unusedVariables false

theorem be_one (t : UInt8) : be 1 ((t.toNat : Int)).toNat = [t] := by
  show [UInt8.ofNat _] = _
  simp

theorem decF_len : ∀ n g, (decF n g).length ≤ n
  | 0, _ => Nat.le_refl _
  | n + 1, g => by
    have ih := decF_len n (g / 10)
    unfold decF
    split
    · simp
    · rw [List.length_append]; simp; omega

section
variable (u w : World) (F : HProp)

set_option maxHeartbeats 2000000 in
theorem framed_any (tag : UInt8) (n : Nat) (v : Value) (b : Bs) (hn : n < 9223372036854775808) (hl : b.length ≤ 100000000) (hb : ∀ w', Sat u w' F → BytesAt w' v b) (hs : Sat u w F) :
    Calls Tryz.prog 41 #[.int .u8 tag.toNat, .int .i64 n, v] w fun e w' => ∃ a c, e = .returned (.slice a (frameB tag n b).length c) ∧ Sat u w' (ownB (.slice a (frameB tag n b).length c) (frameB tag n b) * F) := by
  obtain ⟨a, c, rfl, _, _⟩ := RowAt.len (hb w hs)
  have h1 := isW_new hs
  have HB := Lib.hid hb
  have ht := tag.toNat_lt
  have hw1 : IntKind.u64.wrap (n : Int) = n := by show (n : Int) % 18446744073709551616 = n; omega
  have hw2 : IntKind.u32.wrap (b.length : Int) = b.length := by show (b.length : Int) % 4294967296 = b.length; omega
  have hbd : frameB tag n b = ((([] ++ be 1 ((tag.toNat : Int)).toNat) ++ be 8 ((n : Int)).toNat) ++ be 4 ((b.length : Int)).toNat) ++ b ++ be 4 ((sumB (bodyB tag n b)).toNat : Int).toNat := by
    rw [be_one]
    unfold frameB bodyB
    simp
  have hbd2 : bodyB tag n b = ((([] ++ be 1 ((tag.toNat : Int)).toNat) ++ be 8 ((n : Int)).toNat) ++ be 4 ((b.length : Int)).toNat) ++ b := by
    rw [be_one]
    unfold bodyB
    simp
  have HBD := Lib.hid hbd
  have HBD2 := Lib.hid hbd2
  have hfl := frameB_length tag n b
  have hbl := bodyB_length tag n b
  have HFL := Lib.hid hfl
  have HBL := Lib.hid hbl
  clear hs hb hbd hbd2 hfl hbl
  go_enter Tryz.func41, Tryz.ntmps41
  go_wp2_with fail
  refine (byte_any u _ F _ [] tag.toNat (by omega) (by omega) h1 (by simp)).mono ?_
  rintro e w2 ⟨rfl, h2⟩
  clear h1
  go_wp2_with fail
  refine (long_any u _ F _ _ n (by omega) (by omega) h2 (by simp [be_length])).mono ?_
  rintro e w3 ⟨rfl, h3⟩
  clear h2
  go_wp2_with fail
  refine (word_any u _ F _ _ b.length (by omega) (by omega) h3 (by simp [be_length])).mono ?_
  rintro e w4 ⟨rfl, h4⟩
  clear h3
  go_wp2_with fail
  refine (raw_any u _ F _ _ b _ h4 (HB.out _ h4.right) (by simp [be_length]; omega)).mono ?_
  rintro e w5 ⟨rfl, h5⟩
  clear h4
  rw [← HBD2.out] at h5
  go_wp2_with fail
  refine (out_any u _ F _ _ h5 (by rw [HBL.out]; omega)).mono ?_
  rintro e w6 ⟨a6, c6, rfl, h6⟩
  dsimp only
  clear h5
  go_wp2_with fail
  refine (sum_any w6 _ _ h6.bytes).mono ?_
  rintro e w7 ⟨rfl, rfl⟩
  go_wp2_with fail
  refine (word_any u _ F _ _ ((sumB (bodyB tag n b)).toNat) (by omega) (by have := (sumB (bodyB tag n b)).isLt; omega) h6.right (by rw [HBL.out]; omega)).mono ?_
  rintro e w8 ⟨rfl, h8⟩
  clear h6
  rw [show bodyB tag n b ++ be 4 ((sumB (bodyB tag n b)).toNat : Int).toNat = frameB tag n b from rfl] at h8
  go_wp2_with fail
  refine (out_any u _ F _ _ h8 (by rw [HFL.out]; omega)).mono ?_
  rintro e w9 ⟨a9, c9, rfl, h9⟩
  dsimp only
  have H9 := Lib.hid h9.dr
  clear h8 h9
  go_wp2_with fail
  go_ret
  exact ⟨a9, c9, rfl, H9.out⟩

theorem want_yes : Calls Tryz.prog 66 #[.bool true] w fun e w' => e = .returned (.tuple #[]) ∧ w = w' := by
  go_enter Tryz.func66, Tryz.ntmps66
  go_wp2_with fail
  go_end0
  exact ⟨rfl, rfl⟩

theorem want_no : Calls Tryz.prog 66 #[.bool false] w fun e w' => e = .panicked [{ v := .iface 89 (.agg #[]), recovered := false }] ∧ w = w' := by
  go_enter Tryz.func66, Tryz.ntmps66
  go_wp2_with fail
  exact ⟨rfl, rfl, rfl⟩

set_option maxRecDepth 100000 in
theorem small_any (w : World) (g : Nat) (hg : g < 100) : Calls Tryz.prog 132 #[.int .i64 g] w fun e w' => e = .returned (.string (str (decF 20 g))) ∧ w = w' := by
  by_cases h : g < 10
  · have y1 : (g : Int) < 10 := by omega
    go_enter Tryz.func132, Tryz.ntmps132
    go_wp2_with fail
    go_ret
    have key : ∀ g : Fin 100, g.val < 10 → (ByteArray.mk #[48, 49, 50, 51, 52, 53, 54, 55, 56, 57, 97, 98, 99, 100, 101, 102, 103, 104, 105, 106, 107, 108, 109, 110, 111, 112, 113, 114, 115, 116, 117, 118, 119, 120, 121, 122]).extract g.val (g.val + 1) = str (decF 20 g.val) := by decide +kernel
    exact ⟨congrArg (fun x => Ending.returned (Value.string x)) (key ⟨g, hg⟩ h), rfl⟩
  · have y1 : ¬ (g : Int) < 10 := by omega
    go_enter Tryz.func132, Tryz.ntmps132
    go_wp2_with fail
    go_ret
    refine ⟨congrArg (fun x => Ending.returned (Value.string x)) ?_, rfl⟩
    clear y1 w
    revert h
    revert g
    decide +kernel

theorem fmtInt_any (w : World) (g : Nat) (hg : g < 100) : Calls Tryz.prog 116 #[.int .i64 g, .int .i64 10] w fun e w' => e = .returned (.string (str (decF 20 g))) ∧ w = w' := by
  have y1 : (0 : Int) ≤ (g : Int) := by omega
  have y2 : (g : Int) < 100 := by omega
  go_enter Tryz.func116, Tryz.ntmps116
  go_wp2_with (go_at_call 132; refine (small_any w g hg).mono ?_; rintro e w1 ⟨rfl, rfl⟩)
  go_ret
  exact ⟨rfl, rfl⟩

theorem fmtInt2_any (w : World) (g : Nat) (hg : g < 100) : Calls Tryz.prog 74 #[.int .i64 g, .int .i64 10] w fun e w' => e = .returned (.string (str (decF 20 g))) ∧ w = w' := by
  go_enter Tryz.func74, Tryz.ntmps74
  go_wp2_with (go_at_call 116; refine (fmtInt_any w g hg).mono ?_; rintro e w1 ⟨rfl, rfl⟩)
  go_ret
  exact ⟨rfl, rfl⟩

theorem lname_any (w : World) (l : Nat) (g : Nat) (hg : g < 100) (hc : w.cell? ⟨l, 1, none⟩ = some (.int .i64 g)) :
    Calls Tryz.prog 32 #[.pointer (some ⟨l, 0, none⟩)] w fun e w' => e = .returned (.string (str (nameW g))) ∧ w = w' := by
  go_enter Tryz.func32, Tryz.ntmps32
  go_wp2_with fail
  refine (fmtInt2_any w g hg).mono ?_
  rintro e w1 ⟨rfl, rfl⟩
  have e9 : (ByteArray.mk #[108, 111, 103, 46]) ++ str (decF 20 g) = str (nameW g) := (str_append logPre (decF 20 g)).symm
  have e8 : ¬ 9223372036854775807 < 4 + (decF 20 g).length := by
    have : (decF 20 g).length ≤ 20 := decF_len 20 g
    omega
  have e7 := Lib.hid e9
  go_wp2_with fail
  go_ret
  exact ⟨rfl, rfl⟩
end
end Go.Proofs.YtlfmkiclaijokaaGreatDoor
