/- dries, Sync, Cut, Rename. -/
import Derived.Test.YtlfmkiclaijokaaGreatDoorMk29
import Derived.Test.YtlfmkiclaijokaaGreatDoorMk13
import Derived.Test.YtlfmkiclaijokaaGreatDoorMk9
namespace Go.Proofs.YtlfmkiclaijokaaGreatDoor
open Go.RowKit
set_option linter.unusedVariables false

/-- A file's first bytes, dry, under a name. -/
def driedM (d : DiskP) (src dst : Bs) (k : Nat) : Int × DiskP :=
  if stepOk d then (0, { stepD d with files := putF ⟨dst, (fileOf d src).all.take k, [], true⟩ (delF src d.files) }) else (40, stepD d)

theorem str_take (s : Bs) (k : Nat) : (str s).extract 0 k = str (s.take k) := by
  apply ByteArray.ext
  simp [str]

theorem take_all_size (s : Bs) (k : Nat) : (s.take k).length ≤ s.length := by rw [List.length_take]; omega

theorem okR_dried {d : DiskP} (h : OkR d) {src : Bs} {f : FileP} (hf : getF d.files src = some f) (dst : Bs) (s : Bs) (hs : s.length ≤ f.size) : OkR { d with files := putF ⟨dst, s, [], true⟩ (delF src d.files) } :=
  ⟨okD_dry h.1 hf ⟨dst, s, [], true⟩ (by simpa [FileP.size] using hs), born_put (born_del h.2 _) (fun e => by cases e)⟩

section
variable (u w : World) (F : HProp) (p : Nat) (d : DiskP)

set_option maxRecDepth 100000 in
set_option maxHeartbeats 4000000 in
theorem rdries_any (src dst : Bs) (f : FileP) (k : Nat) (hf : getF d.files src = some f) (hk : k ≤ f.size) (hs : Sat u w (isM p d * F)) :
    Calls Tryz.prog 125 #[.pointer (some ⟨p, 0, none⟩), .string (str src), .string (str dst), .int .i64 k] w
      fun e w' => e = .returned (.int .i64 (driedM d src dst k).1) ∧ Sat u w' (isM p (driedM d src dst k).2 * F) := by
  have hR : driedM d src dst k = if stepOk d then (0, { stepD d with files := putF ⟨dst, f.all.take k, [], true⟩ (delF src d.files) }) else (40, stepD d) := by
    unfold driedM fileOf; rw [hf]; rfl
  generalize driedM d src dst k = R at hR ⊢
  have HR := Lib.hid hR
  have HF := Lib.hid hf
  have SORT := Lib.hid (isM_iff.1 hs).1.1.sorted
  have HB := Lib.hid ((isM_iff.1 hs).1.1.size f (getF_name hf).2)
  have hkb : k ≤ 8388608 := Nat.le_trans hk ((isM_iff.1 hs).1.1.size f (getF_name hf).2)
  clear hR hf
  go_enter Tryz.func125, Tryz.ntmps125
  go_wp2_with fail
  refine (rstep_any u w F p d hs).mono ?_
  rintro e w1 ⟨rfl, h1⟩
  dsimp only
  clear hs
  rcases hst : stepOk d with _ | _
  · have E := Lib.hid (show R = (40, stepD d) by rw [HR.out, hst]; rfl)
    clear hst
    go_wp2_with fail
    go_ret
    exact ⟨by rw [E.out]; rfl, by rw [E.out]; exact h1⟩
  have E := Lib.hid (show R = (0, { stepD d with files := putF ⟨dst, f.all.take k, [], true⟩ (delF src d.files) }) by rw [HR.out, hst]; rfl)
  clear hst HR
  go_wp2_with fail
  refine (rlook_any u w1 F p (stepD d) src h1).mono ?_
  rintro e w2 ⟨rfl, h2⟩
  have hfo : fileOf (stepD d) src = f := by unfold fileOf; rw [stepD_files, HF.out]; rfl
  rw [hfo]
  dsimp only [keptV]
  clear h1 hfo
  go_upto_region 4 with fail
  have h3 := (h2.alloc (keptO f)).s2
  simp only [keptO] at h3
  generalize hq : w2.heap.size = q at h3 ⊢
  generalize w2.alloc (.cells #[.string (str f.name), .string (str f.dry), .string (str f.wet), .bool f.born] 134) = w3 at h3 ⊢
  clear h2 hq
  obtain ⟨ok, v, L, hL, h4⟩ := isM_iff.1 h3
  rw [stepD_files] at hL
  have hlb : L.length ≤ 1000000 := by rw [hL.length_eq]; have := ok.1.many; rwa [stepD_files] at this
  have ok2 := okR_dried ok (src := src) (f := f) (by rw [stepD_files]; exact HF.out) dst (f.all.take k) (by rw [List.length_take]; unfold FileP.all FileP.size; rw [List.length_append]; omega)
  rw [stepD_files] at ok2
  have OK := Lib.hid ok2
  have HL := Lib.hid hL
  clear ok ok2 hL h3
  go_wp2_with fail
  refine (rothers_any u w3 _ p v (stepD d) L src hlb h4).mono ?_
  rintro e w4 ⟨a1, c1, rfl, h5⟩
  dsimp only
  clear h4
  have h6 := h5.s2
  have c0 := h6.cell 0
  have f0 := h6.free 0
  have h7 := h6.setCell 0 (.slice a1 (delF src L).length c1)
  go_upto_region 5 with fail
  generalize w4.setCell ⟨p, 0, none⟩ (.slice a1 (delF src L).length c1) = w5 at h7 ⊢
  clear h5 h6 c0 f0
  have h8 : Sat u w5 (own q (.cells #[.string (str f.name), .string (str f.dry), .string (str f.wet), .bool f.born] 134 (0, 0)) * (own p (headR (.slice a1 (delF src L).length c1) (stepD d)) * (ownK (.slice a1 (delF src L).length c1) (delF src L) * (ownK v L * F)))) := h7.eq (by
    show own p (headR _ _) * _ = _
    ac_rfl)
  have c1' := h8.cell 1
  have c2' := h8.cell 2
  have e1 : str f.dry ++ str f.wet = str f.all := (str_append _ _).symm
  have e2 : (str f.all).extract 0 k = str (f.all.take k) := str_take _ _
  have hal : f.all.length = f.size := by unfold FileP.all FileP.size; rw [List.length_append]
  have y1 : (k : Int) ≤ f.all.length := by omega
  have hdl : (delF src L).length ≤ 1000000 := Nat.le_trans (List.length_filter_le _ _) hlb
  have y2 : ¬ 9223372036854775807 < f.dry.length + f.wet.length := by
    have : f.dry.length + f.wet.length = f.size := rfl
    have := (Nat.le_trans (Nat.le_of_eq this) (show f.size ≤ 8388608 from HB.out))
    omega
  clear h7 hal
  go_wp2_with fail
  refine (rchanges_any u w5 _ p (.slice a1 (delF src L).length c1) (stepD d) (delF src L) ⟨dst, f.all.take k, [], true⟩ hdl h8.s2.s3.s2).mono ?_
  rintro e w6 ⟨rfl, v', h9⟩
  dsimp only
  have H := Lib.hid (isM_iff.2 ⟨OK.out, v', _, change_perm (del_perm HL.out src) (sorted_del src _ SORT.out) ⟨dst, f.all.take k, [], true⟩, h9⟩ : Sat u w6 (isM p { stepD d with files := putF ⟨dst, f.all.take k, [], true⟩ (delF src d.files) } * _))
  clear h8 c1' c2' e1 e2 h9
  go_wp2_with fail
  go_ret
  rw [E.out]
  exact ⟨rfl, (H.out.eq (show _ = (own q _ * ownK v L) * (isM p _ * F) by ac_rfl)).right⟩

/-- The bytes of a whole file, or the first ones. -/
theorem driesD_of {src dst : Bs} {left : Bs → Bs × Int} {f : FileP} {k : Nat} (hb : barsD d [src, dst] = 0) (hf : getF d.files src = some f) (h : left f.all = (f.all.take k, 0)) : driesD d src dst left = driedM d src dst k := by
  unfold driesD driedM fileOf
  rw [if_neg (by simp [hb]), hf]
  dsimp only [Option.getD_some]
  rw [h]
  simp

theorem driesD_bars {src dst : Bs} {left : Bs → Bs × Int} (h : barsD d [src, dst] ≠ 0) : driesD d src dst left = (barsD d [src, dst], d) := by
  unfold driesD
  rw [if_pos h]

theorem driesD_none {src dst : Bs} {left : Bs → Bs × Int} (hb : barsD d [src, dst] = 0) (hf : getF d.files src = none) : driesD d src dst left = (5, d) := by
  unfold driesD
  rw [if_neg (by simp [hb]), hf]

/-- What the bars of a call say that wants the file. -/
theorem barsM_true (n o : Bs) : (barsM d n o true ≠ 0 ∧ ∀ left, driesD d n o left = (barsM d n o true, d)) ∨ (barsM d n o true = 0 ∧ barsD d [n, o] = 0 ∧ ∃ f, getF d.files n = some f) := by
  unfold barsM
  by_cases hb : barsD d [n, o] = 0
  · rw [if_neg (by simp [hb])]
    unfold hasN
    rcases hf : getF d.files n with _ | f
    · left
      exact ⟨by simp, fun left => by rw [driesD_none d hb hf]; rfl⟩
    · right
      exact ⟨by simp, hb, f, rfl⟩
  · left
    rw [if_pos hb]
    exact ⟨hb, fun left => driesD_bars d hb⟩

set_option maxHeartbeats 2000000 in
theorem rsync_any (n : Bs) (hl : n.length ≤ 1000000000) (hs : Sat u w (isM p d * F)) :
    Calls Tryz.prog 100 #[.pointer (some ⟨p, 0, none⟩), .string (str n)] w
      fun e w' => e = .returned (.int .i64 (driesD d n n wholeL).1) ∧ Sat u w' (isM p (driesD d n n wholeL).2 * F) := by
  have HB := Lib.hid (barsM_true d n n)
  go_enter Tryz.func100, Tryz.ntmps100
  go_wp2_with fail
  refine (rbars_any u w F p d n n true hl hl hs).mono ?_
  rintro e w1 ⟨rfl, h1⟩
  dsimp only
  clear hs
  generalize hb : barsM d n n true = b at h1 HB ⊢
  have HBB := Lib.hid hb
  clear hb
  by_cases h0 : b = 0
  · subst h0
    rcases HB.out with ⟨hx, _⟩ | ⟨_, hb, f, hf⟩
    · exact absurd rfl hx
    have HBZ := Lib.hid hb
    have HF := Lib.hid hf
    clear hb hf
    go_wp2_with fail
    refine (rsize_any u w1 F p d n h1).mono ?_
    rintro e w2 ⟨rfl, hsz, h2⟩
    dsimp only
    have hfo : fileOf d n = f := by unfold fileOf; rw [HF.out]; rfl
    rw [hfo] at hsz ⊢
    clear h1 hfo
    go_wp2_with fail
    refine (rdries_any u w2 F p d n n f f.size HF.out (Nat.le_refl _) h2).mono ?_
    rintro e w3 ⟨rfl, h3⟩
    dsimp only
    have e1 : driesD d n n wholeL = driedM d n n f.size := driesD_of d HBZ.out HF.out (by
      unfold wholeL
      have : f.all.length = f.size := by unfold FileP.all FileP.size; rw [List.length_append]
      rw [← this, List.take_length])
    rw [← e1] at h3 ⊢
    clear h2 e1
    have H := Lib.hid h3
    clear h3
    go_wp2_with fail
    go_ret
    exact ⟨rfl, H.out⟩
  · rcases HB.out with ⟨_, hx⟩ | ⟨hx, _⟩
    · have E := Lib.hid (hx wholeL)
      have hne : (b != 0) = true := by simpa using h0
      have H := Lib.hid h1
      clear hx h0 h1
      go_wp2_with fail
      go_ret
      rw [E.out]
      exact ⟨rfl, H.out⟩
    · exact absurd hx h0

set_option maxHeartbeats 2000000 in
theorem rrename_any (n o : Bs) (hl : n.length ≤ 1000000000) (hl2 : o.length ≤ 1000000000) (hs : Sat u w (isM p d * F)) :
    Calls Tryz.prog 129 #[.pointer (some ⟨p, 0, none⟩), .string (str n), .string (str o)] w
      fun e w' => e = .returned (.int .i64 (driesD d n o wholeL).1) ∧ Sat u w' (isM p (driesD d n o wholeL).2 * F) := by
  have HB := Lib.hid (barsM_true d n o)
  go_enter Tryz.func129, Tryz.ntmps129
  go_wp2_with fail
  refine (rbars_any u w F p d n o true hl hl2 hs).mono ?_
  rintro e w1 ⟨rfl, h1⟩
  dsimp only
  clear hs
  generalize hb : barsM d n o true = b at h1 HB ⊢
  have HBB := Lib.hid hb
  clear hb
  by_cases h0 : b = 0
  · subst h0
    rcases HB.out with ⟨hx, _⟩ | ⟨_, hb, f, hf⟩
    · exact absurd rfl hx
    have HBZ := Lib.hid hb
    have HF := Lib.hid hf
    clear hb hf
    go_wp2_with fail
    refine (rsize_any u w1 F p d n h1).mono ?_
    rintro e w2 ⟨rfl, hsz, h2⟩
    dsimp only
    have hfo : fileOf d n = f := by unfold fileOf; rw [HF.out]; rfl
    rw [hfo] at hsz ⊢
    clear h1 hfo
    go_wp2_with fail
    refine (rdries_any u w2 F p d n o f f.size HF.out (Nat.le_refl _) h2).mono ?_
    rintro e w3 ⟨rfl, h3⟩
    dsimp only
    have e1 : driesD d n o wholeL = driedM d n o f.size := driesD_of d HBZ.out HF.out (by
      unfold wholeL
      have : f.all.length = f.size := by unfold FileP.all FileP.size; rw [List.length_append]
      rw [← this, List.take_length])
    rw [← e1] at h3 ⊢
    clear h2 e1
    have H := Lib.hid h3
    clear h3
    go_wp2_with fail
    go_ret
    exact ⟨rfl, H.out⟩
  · rcases HB.out with ⟨_, hx⟩ | ⟨hx, _⟩
    · have E := Lib.hid (hx wholeL)
      have hne : (b != 0) = true := by simpa using h0
      have H := Lib.hid h1
      clear hx h0 h1
      go_wp2_with fail
      go_ret
      rw [E.out]
      exact ⟨rfl, H.out⟩
    · exact absurd hx h0

set_option maxHeartbeats 2000000 in
theorem rcut_any (n : Bs) (k : Int) (hl : n.length ≤ 1000000000) (hs : Sat u w (isM p d * F)) :
    Calls Tryz.prog 99 #[.pointer (some ⟨p, 0, none⟩), .string (str n), .int .i64 k] w
      fun e w' => e = .returned (.int .i64 (driesD d n n (cutL k)).1) ∧ Sat u w' (isM p (driesD d n n (cutL k)).2 * F) := by
  have HB := Lib.hid (barsM_true d n n)
  go_enter Tryz.func99, Tryz.ntmps99
  go_wp2_with fail
  refine (rbars_any u w F p d n n true hl hl hs).mono ?_
  rintro e w1 ⟨rfl, h1⟩
  dsimp only
  clear hs
  generalize hb : barsM d n n true = b at h1 HB ⊢
  have HBB := Lib.hid hb
  clear hb
  by_cases h0 : b = 0
  · subst h0
    rcases HB.out with ⟨hx, _⟩ | ⟨_, hb, f, hf⟩
    · exact absurd rfl hx
    have HBZ := Lib.hid hb
    have HF := Lib.hid hf
    have hal : f.all.length = f.size := by unfold FileP.all FileP.size; rw [List.length_append]
    have HAL := Lib.hid hal
    have bad : (k < 0 ∨ (f.size : Int) < k) → driesD d n n (cutL k) = (2, d) := fun h => by
      unfold driesD
      rw [if_neg (by simp [HBZ.out]), HF.out]
      have hc : cutL k f.all = ([], 2) := if_pos (by rw [HAL.out]; exact h)
      dsimp only
      rw [hc]
      rfl
    have BAD := Lib.hid bad
    clear hb hf hal bad
    by_cases k0 : k < 0
    · have E := Lib.hid (BAD.out (.inl k0))
      have H := Lib.hid h1
      clear h1
      go_wp2_with fail
      go_ret
      rw [E.out]
      exact ⟨rfl, H.out⟩
    go_wp2_with fail
    refine (rsize_any u w1 F p d n h1).mono ?_
    rintro e w2 ⟨rfl, hsz, h2⟩
    dsimp only
    have hfo : fileOf d n = f := by unfold fileOf; rw [HF.out]; rfl
    rw [hfo] at hsz ⊢
    clear h1 hfo
    by_cases k1 : (f.size : Int) < k
    · have E := Lib.hid (BAD.out (.inr k1))
      have H := Lib.hid h2
      clear h2
      go_wp2_with fail
      go_ret
      rw [E.out]
      exact ⟨rfl, H.out⟩
    obtain ⟨m, rfl⟩ : ∃ m : Nat, k = m := ⟨k.toNat, by omega⟩
    have k2 : (m : Int) ≤ f.size := by omega
    have hm : m ≤ f.size := by omega
    clear k0 k1
    go_wp2_with fail
    refine (rdries_any u w2 F p d n n f m HF.out hm h2).mono ?_
    rintro e w3 ⟨rfl, h3⟩
    dsimp only
    have e1 : driesD d n n (cutL m) = driedM d n n m := driesD_of d HBZ.out HF.out (by
      unfold cutL
      rw [if_neg (by rw [HAL.out]; omega)]
      rfl)
    rw [← e1] at h3 ⊢
    clear h2 e1
    have H := Lib.hid h3
    clear h3
    go_wp2_with fail
    go_ret
    exact ⟨rfl, H.out⟩
  · rcases HB.out with ⟨_, hx⟩ | ⟨hx, _⟩
    · have E := Lib.hid (hx (cutL k))
      have hne : (b != 0) = true := by simpa using h0
      have H := Lib.hid h1
      clear hx h0 h1
      go_wp2_with fail
      go_ret
      rw [E.out]
      exact ⟨rfl, H.out⟩
    · exact absurd hx h0
end
end Go.Proofs.YtlfmkiclaijokaaGreatDoor
