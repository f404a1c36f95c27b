/- Open, as the document does it. -/
import Derived.Test.YtlfmkiclaijokaaGreatDoorMk35
import Derived.Test.YtlfmkiclaijokaaGreatDoorMk21
namespace Go.Proofs.YtlfmkiclaijokaaGreatDoor
open Go.RowKit
set_option linter.unusedVariables false

theorem unframe_some {tag : UInt8} {most : Nat} {b s rest : Bs} {n : Nat} (h : unframeP tag most b = some (s, n, rest)) : 17 + s.length ≤ b.length ∧ rest = b.drop (17 + s.length) ∧ 1 ≤ n ∧ n ≤ 4611686018427387904 ∧ s.length ≤ most := by
  unfold unframeP at h
  split at h
  · next hc =>
    obtain ⟨h1, h2, h3, h4, h5, h6, h7⟩ := hc
    simp only [Option.some.injEq, Prod.mk.injEq] at h
    obtain ⟨rfl, rfl, rfl⟩ := h
    have l3 : ((b.drop 13).take (num ((b.drop 9).take 4))).length = num ((b.drop 9).take 4) := by rw [List.length_take, List.length_drop]; omega
    rw [l3]
    exact ⟨h6, rfl, h3, h4, h5⟩
  · cases h

theorem load_of (d : DiskP) (h : (readD d ckN).2 = 0) : loadP d = if (readN 75 8000000 (readD d ckN).1).2.2 = 0 ∨ (readN 75 8000000 (readD d ckN).1).2.2 ≠ (readD d ckN).1.length then none
    else some ((readN 75 8000000 (readD d ckN).1).1, (readN 75 8000000 (readD d ckN).1).2.1) := by
  unfold loadP readN
  rw [if_pos h]
  rcases hu : unframeP 75 8000000 (readD d ckN).1 with _ | ⟨s, n, rest⟩
  · rw [if_pos (.inl rfl)]
  · obtain ⟨h1, h2, _⟩ := unframe_some hu
    dsimp only
    by_cases hl : 17 + s.length = (readD d ckN).1.length
    · have : rest = [] := by rw [h2]; exact List.drop_of_length_le (by omega)
      subst this
      rw [if_neg (by omega)]
    · rw [if_pos (.inr hl)]
      have : rest ≠ [] := by
        intro he
        rw [he] at h2
        have := congrArg List.length h2
        rw [List.length_drop] at this
        simp at this
        omega
      cases rest with
      | nil => exact absurd rfl this
      | cons _ _ => rfl

theorem text_row {u w : World} {F : HProp} {g : Nat} (n : Bs) {t : TypeId} {fr : Nat × Nat} (h : Sat u w (own g (.cells #[.string (str n)] t fr) * F)) : RowAt w (.slice (some ⟨g, 0, none⟩) 1 1) 1 [.string (str n)] := by
  refine .inr ⟨⟨g, 0, none⟩, 1, rfl, Nat.le_refl _, by decide, fun j y hy => ?_⟩
  rw [addr_add, h.cell]
  match j, hy with
  | 0, hy => exact hy
  | j + 1, hy => simp at hy

theorem text_one (n : Bs) : ∀ y ∈ [Value.string (str n)], y.oneCell' = true := by
  intro y hy
  rw [List.mem_singleton.1 hy]
  rfl

theorem ownS_snoc {u w : World} {F : HProp} {a : Option Addr} {c : Nat} {T : List Bs} {n : Bs} (h : Sat u w (ownRow 9 1 (.slice a (T.length + 1) c) (T.length + 1) ((T.map fun s => Value.string (str s)) ++ [.string (str n)]) * F)) : Sat u w (ownS (.slice a (T ++ [n]).length c) (T ++ [n]) * F) := by
  unfold ownS
  rw [List.length_append, List.map_append]
  exact h

theorem ownS_get {u w : World} {F : HProp} {a : Option Addr} {c : Nat} {T : List Bs} {j : Nat} {n : Bs} (h : Sat u w (ownS (.slice a T.length c) T * F)) (hj : T[j]? = some n) : ∃ g, a = some ⟨g, 0, none⟩ ∧ w.cell? ⟨g, j, none⟩ = some (.string (str n)) := by
  have h0 : RowAt w _ _ _ := Sat.row_at h
  have hjl := (List.getElem?_eq_some_iff.1 hj).1
  rcases Sat.row_iff.1 h with ⟨_, h1, _⟩ | ⟨g, cap, cur, hv, _⟩
  · omega
  · cases hv
    rcases h0 with ⟨hv, _⟩ | ⟨a, c, hv, _, _, hc⟩
    · cases hv
    · cases hv
      have := hc j (.string (str n)) (by rw [List.getElem?_map, hj]; rfl)
      rw [addr_add] at this
      exact ⟨g, rfl, this⟩

def tidyF : List Bs → DiskP → Int × DiskP
  | [], d => (0, d)
  | n :: l, d => if (removeD d n).1 ≠ 0 then removeD d n else tidyF l (removeD d n).2

theorem tidyF_cons (n : Bs) (l : List Bs) (d : DiskP) : tidyF (n :: l) d = if (removeD d n).1 ≠ 0 then removeD d n else tidyF l (removeD d n).2 := rfl

theorem tidy_filter (own : Bs) : ∀ (l : List Bs) (d : DiskP), tidyP own l d = tidyF (l.filter (toRemove own)) d
  | [], _ => rfl
  | n :: l, d => by
    unfold tidyP
    rw [List.filter_cons]
    split
    · unfold tidyF
      rw [tidy_filter own l]
    · rw [tidy_filter own l]

theorem BytesAt.lasts {w : World} {a : Option Addr} {n c : Nat} {xs : List UInt8} (h : BytesAt w (.slice a n c) xs) (k : Nat) (hk : k ≤ xs.length) :
    BytesAt w (.slice (if c = k then a else a.map (·.add k)) (xs.length - k) (c - k)) (xs.drop k) := by
  obtain ⟨_, c', hv, h1, h2⟩ := RowAt.len h
  cases hv
  have hl : (xs.drop k).length = xs.length - k := List.length_drop
  unfold BytesAt
  rw [hl]
  by_cases h0 : xs.length - k = 0
  · rw [h0]
    have hd : xs.drop k = [] := List.eq_nil_of_length_eq_zero (by omega)
    rw [hd]
    rcases h with ⟨hv, h3, _⟩ | ⟨a1, c1, hv, _, _, _⟩
    · obtain ⟨ha, _, hc⟩ := Value.slice.inj hv
      subst ha hc
      have : k = 0 := by omega
      subst this
      exact .inl ⟨by simp, rfl, rfl⟩
    · cases hv
      split
      · exact .inr ⟨_, _, rfl, Nat.zero_le _, by omega, fun j u hu => by simp at hu⟩
      · exact .inr ⟨_, _, rfl, Nat.zero_le _, by omega, fun j u hu => by simp at hu⟩
  · obtain ⟨b, o, c', hv, q1, q2, _⟩ := h.open (by omega)
    cases hv
    rw [if_neg (by omega)]
    have := h.piece k (xs.length - k) (c - k) (by omega) (by omega) (by omega)
    rw [List.take_of_length_le (by omega)] at this
    unfold BytesAt at this
    rw [hl] at this
    rw [Option.map_some, addr_add_at]
    exact this

theorem scan_stop {fuel i : Nat} {b : Bs} (h : (readN 82 1048576 b).2.2 = 0 ∨ (readN 82 1048576 b).2.1 ≠ i) : scanP fuel i b = ([], 0) := by
  cases fuel with
  | zero => rfl
  | succ fuel =>
    unfold scanP
    unfold readN at h
    rcases hu : unframeP 82 1048576 b with _ | ⟨s, n, rest⟩
    · rfl
    · rw [hu] at h
      dsimp only at h ⊢
      rw [if_neg (by rcases h with h | h; omega; exact h)]

theorem scan_go {fuel i : Nat} {b : Bs} (h1 : (readN 82 1048576 b).2.2 ≠ 0) (h2 : (readN 82 1048576 b).2.1 = i) :
    scanP (fuel + 1) i b = ((readN 82 1048576 b).1 :: (scanP fuel (i + 1) (b.drop (readN 82 1048576 b).2.2)).1, (readN 82 1048576 b).2.2 + (scanP fuel (i + 1) (b.drop (readN 82 1048576 b).2.2)).2) := by
  conv => lhs; unfold scanP
  unfold readN at h1 h2 ⊢
  rcases hu : unframeP 82 1048576 b with _ | ⟨s, n, rest⟩
  · rw [hu] at h1; exact absurd rfl h1
  · rw [hu] at h2
    obtain ⟨_, hr, _⟩ := unframe_some hu
    dsimp only at h2 ⊢
    rw [if_pos h2, hr]

theorem readN_facts (tag : UInt8) (most : Nat) (b : Bs) : (readN tag most b).2.2 ≤ b.length ∧ (readN tag most b).2.1 ≤ 4611686018427387904 ∧ (readN tag most b).1.length ≤ b.length ∧ ((readN tag most b).2.2 ≠ 0 → 17 ≤ (readN tag most b).2.2) := by
  unfold readN
  rcases hu : unframeP tag most b with _ | ⟨s, n, rest⟩
  · exact ⟨Nat.zero_le _, Nat.zero_le _, Nat.zero_le _, fun h => absurd rfl h⟩
  · obtain ⟨h1, _, _, h4, _⟩ := unframe_some hu
    exact ⟨h1, h4, by dsimp only; omega, fun _ => by dsimp only; omega⟩

/-- What Open answers. -/
def OpenedN (u : World) (F : HProp) (p : Nat) (R : Int × Option WalP × DiskP) (e : Ending) (w' : World) : Prop :=
  match R.2.1 with
  | some W => ∃ l, e = .returned (.tuple #[.pointer (some ⟨l, 0, none⟩), .int .i64 R.1]) ∧ Sat u w' (isN l p W * (isM p R.2.2 * F))
  | none => e = .returned (.tuple #[.pointer none, .int .i64 R.1]) ∧ Sat u w' (isM p R.2.2 * F)

theorem isM_off {u w : World} {F : HProp} {p : Nat} {d : DiskP} (h : Sat u w (isM p d * F)) : w.cell? ⟨p, 4, none⟩ = some (.bool d.off) := by
  obtain ⟨_, v, L, _, h2⟩ := isM_iff.1 h
  exact h2.cell 4

theorem readD_small {d : DiskP} (ok : OkD d) (hq : d.quota ≤ 900000) (n : Bs) : (readD d n).1.length ≤ 900000 := by
  unfold readD
  split
  · exact Nat.zero_le _
  · rcases hg : getF d.files n with _ | f
    · exact Nat.zero_le _
    · dsimp only
      have h1 := size_le_used (getF_name hg).2
      have h2 := ok.used
      have : f.all.length = f.size := by unfold FileP.all FileP.size; rw [List.length_append]
      omega

theorem pre_take (n : Bs) : logPre.isPrefixOf n = decide (n.take 4 = logPre) := by
  unfold logPre
  match n with
  | [] => rfl
  | [a] => simp [List.isPrefixOf]
  | [a, b] => simp [List.isPrefixOf]
  | [a, b, c] => simp [List.isPrefixOf]
  | a :: b :: c :: d :: n =>
    simp only [List.isPrefixOf, List.take_succ_cons, List.take_zero, Bool.and_true, List.cons.injEq, and_true, Bool.decide_and]
    have e : ∀ x y : UInt8, (x == y) = decide (y = x) := fun x y => by
      by_cases h : x = y
      · subst h; simp
      · have h2 : ¬ y = x := fun e => h e.symm
        simp [h, h2]
    rw [e, e, e, e]

/-- The round's question of an opening, as the document asks it. -/
theorem remove_ask (own n : Bs) : toRemove own n = (decide (n = tmpN) || (decide (4 ≤ n.length) && decide (n.take 4 = logPre) && decide (n ≠ own))) := by
  unfold toRemove
  rw [pre_take]
  by_cases h : 4 ≤ n.length
  · simp [h]
  · have : n.take 4 ≠ logPre := fun e => by
      have := congrArg List.length e
      rw [List.length_take] at this
      simp [logPre] at this
      omega
    simp [h, this]

theorem okW_open {g : Nat} {s : Bs} (hg : g < 100) (hs : s.length ≤ 900000) : OkW ⟨g, s, [], 0, 0, 0⟩ :=
  ⟨hg, Nat.zero_le _, Nat.zero_le _, Nat.zero_le _, (by show s.length ≤ 100000000; omega), (fun y hy => by cases hy), (by show (-9223372036854775808 : Int) ≤ 0; decide), (by show (0 : Int) ≤ 9223372036854775807; decide)⟩

section
variable (u w : World) (F : HProp) (p : Nat) (d : DiskP)

set_option maxRecDepth 100000 in
set_option maxHeartbeats 16000000 in
theorem nopen_any (hq : d.quota ≤ 900000) (hnl : ∀ f ∈ d.files, f.name.length ≤ 1000000000) (hg : ∀ s g, loadP d = some (s, g) → g < 100) (hs : Sat u w (isM p d * F)) :
    Calls Tryz.prog 55 #[.pointer (some ⟨p, 0, none⟩)] w (OpenedN u F p (openW d)) := by
  have hR : openW d = if d.off then (40, none, d) else match loadP d with | none => (50, none, d) | some (s, g) => (if (tidyP (nameW g) (d.files.map FileP.name) d).1 ≠ 0 then ((tidyP (nameW g) (d.files.map FileP.name) d).1, none, (tidyP (nameW g) (d.files.map FileP.name) d).2) else lastP (tidyP (nameW g) (d.files.map FileP.name) d).2 g s) := rfl
  generalize openW d = R at hR ⊢
  have HR := Lib.hid hR
  have HG := Lib.hid hg
  have HNL := Lib.hid hnl
  have OK := Lib.hid (isM_iff.1 hs).1
  have c4 := isM_off hs
  clear hR hg hnl
  go_enter Tryz.func55, Tryz.ntmps55
  rcases ho : d.off with _ | _
  rotate_left
  · have E := Lib.hid (show R = (40, none, d) by rw [HR.out, ho]; rfl)
    have H := Lib.hid hs
    rw [ho] at c4
    clear hs ho
    go_wp2_with fail
    go_ret2
    unfold OpenedN
    rw [E.out]
    exact ⟨rfl, H.out⟩
  rw [ho] at c4
  have HR1 := Lib.hid (show R = match loadP d with | none => (50, none, d) | some (s, g) => (if (tidyP (nameW g) (d.files.map FileP.name) d).1 ≠ 0 then ((tidyP (nameW g) (d.files.map FileP.name) d).1, none, (tidyP (nameW g) (d.files.map FileP.name) d).2) else lastP (tidyP (nameW g) (d.files.map FileP.name) d).2 g s) by rw [HR.out, ho]; rfl)
  clear ho HR
  have hck : ckN.length ≤ 1000000000 := by decide
  go_upto_region 4 with fail
  have ok0 : OkW ⟨0, [], [], 0, 0, 0⟩ := ⟨by decide, by decide, by decide, by decide, by decide, (fun y hy => by cases hy), by decide, by decide⟩
  have h1 : Sat u (w.alloc (.cells #[.pointer (some ⟨p, 0, none⟩), .int .i64 0, .string ⟨#[]⟩, .slice none 0 0, .int .i64 0, .int .i64 0, .int .i64 0] 123)) (isN w.heap.size p ⟨0, [], [], 0, 0, 0⟩ * (isM p d * F)) :=
    isN_iff.2 ⟨ok0, none, 0, (Sat.row_nil hs : Sat u w (ownRow 9 1 (.slice none 0 0) 0 [] * _)).alloc (headN p (.slice none 0 0) ⟨0, [], [], 0, 0, 0⟩)⟩
  generalize hll : w.heap.size = l at h1 ⊢
  generalize hww : w.alloc (.cells #[.pointer (some ⟨p, 0, none⟩), .int .i64 0, .string ⟨#[]⟩, .slice none 0 0, .int .i64 0, .int .i64 0, .int .i64 0] 123) = w1 at h1 ⊢
  clear hll hww ok0 hs c4
  go_wp2_with fail
  refine (rread_any u w1 _ p d ckN hck h1.s2).mono ?_
  rintro e w2 ⟨a2, c2, rfl, h2⟩
  dsimp only
  clear h1
  generalize hb : (readD d ckN).1 = b at h2 ⊢
  generalize he : (readD d ckN).2 = e at ⊢
  have hbs : b.length ≤ 900000 := by rw [← hb]; exact readD_small OK.out.1 hq ckN
  have HBB := Lib.hid hb
  have HEE := Lib.hid he
  clear hb he
  go_upto_if 32 with fail
  go_cut [7] (fun _ wx => ∃ g s, loadP d = some (s, g) ∧ Sat u wx (isN l p ⟨g, s, [], 0, 0, 0⟩ * (isM p d * F)))
  case first J K' hJ hmet =>
    by_cases he0 : e = 0
    case neg =>
      have hlo : loadP d = some ([], 0) := by unfold loadP; rw [if_neg (by rw [HEE.out]; exact he0)]
      have HLO := Lib.hid hlo
      have hz : (e == 0) = false := by rw [beq_eq_false_iff_ne]; exact he0
      have h3 := h2.right.s2
      clear h2 he0 hlo
      go_wp2_with fail
      go_meet
      exact ⟨0, [], HLO.out, h3⟩
    subst he0
    have hlo := load_of d HEE.out
    rw [HBB.out] at hlo
    have HLO := Lib.hid hlo
    clear hlo
    go_wp2_with fail
    refine (nread_any u w2 _ 75 8000000 b (.slice a2 b.length c2) (by decide) hbs (fun w' h' => h'.roB_at) h2).mono ?_
    rintro e w3 ⟨rfl, h3⟩
    dsimp only
    clear h2
    have hkb : (readN 75 8000000 b).2.2 ≤ 900000 := by
      unfold readN
      rcases hu : unframeP 75 8000000 b with _ | ⟨s, n, rest⟩
      · exact Nat.zero_le _
      · have := (unframe_some hu).1
        dsimp only
        omega
    have hnb : (readN 75 8000000 b).2.1 ≤ 4611686018427387904 := by
      unfold readN
      rcases hu : unframeP 75 8000000 b with _ | ⟨s, n, rest⟩
      · exact Nat.zero_le _
      · exact (unframe_some hu).2.2.2.1
    have hsb : (readN 75 8000000 b).1.length ≤ 900000 := by
      unfold readN
      rcases hu : unframeP 75 8000000 b with _ | ⟨s, n, rest⟩
      · exact Nat.zero_le _
      · have := (unframe_some hu).1
        dsimp only
        omega
    generalize readN 75 8000000 b = q at HLO hkb hnb hsb ⊢
    obtain ⟨s, n, k⟩ := q
    dsimp only at HLO hkb hnb hsb ⊢
    by_cases hk0 : k = 0
    · have hlo := HLO.out
      rw [if_pos (.inl hk0)] at hlo
      subst hk0
      have E := Lib.hid (show R = (50, none, d) by rw [HR1.out, hlo])
      have H := Lib.hid h3.right.s2.right
      clear hlo h3
      go_wp2_with fail
      go_ret2
      unfold OpenedN
      rw [E.out]
      exact ⟨rfl, H.out⟩
    have hkz : ((k : Int) == 0) = false := by rw [beq_eq_false_iff_ne]; omega
    by_cases hkl : k = b.length
    case neg =>
      have hlo := HLO.out
      rw [if_pos (.inr hkl)] at hlo
      have hkl2 : ((k : Int) == (b.length : Int)) = false := by rw [beq_eq_false_iff_ne]; omega
      have E := Lib.hid (show R = (50, none, d) by rw [HR1.out, hlo])
      have H := Lib.hid h3.right.s2.right
      clear hlo h3
      go_wp2_with fail
      go_ret2
      unfold OpenedN
      rw [E.out]
      exact ⟨rfl, H.out⟩
    have hlo := HLO.out
    rw [if_neg (by omega)] at hlo
    have HLO2 := Lib.hid hlo
    have hg100 := HG.out s n hlo
    have hkl2 : ((k : Int) == (b.length : Int)) = true := by rw [beq_iff_eq]; omega
    have h4 : Sat u w3 (isN l p ⟨0, [], [], 0, 0, 0⟩ * (isM p d * F)) := h3.right.s2
    obtain ⟨okn, a5, c5, h5⟩ := isN_iff.1 h4
    have c1' := h5.cell 1
    have c2' := h5.cell 2
    have f1' := h5.free 1
    have f2' := h5.free 2
    have h6 := (h5.setCell 2 (.string (str s))).setCell 1 (.int .i64 n)
    have ok6 : OkW ⟨n, s, [], 0, 0, 0⟩ := okW_open hg100 hsb
    have H := Lib.hid (isN_iff.2 ⟨ok6, a5, c5, h6⟩ : Sat u _ (isN l p ⟨n, s, [], 0, 0, 0⟩ * (isM p d * F)))
    clear h3 h4 h5 h6 ok6 okn hlo HLO hk0 hkl
    go_wp2_with fail
    go_meet
    exact ⟨n, s, HLO2.out, H.out⟩
  case rest =>
    obtain ⟨g, s, hlo, h3⟩ := hcut
    clear h2
    have hg100 := HG.out s g hlo
    have HR2 := Lib.hid (show R = (if (tidyP (nameW g) (d.files.map FileP.name) d).1 ≠ 0 then ((tidyP (nameW g) (d.files.map FileP.name) d).1, none, (tidyP (nameW g) (d.files.map FileP.name) d).2) else lastP (tidyP (nameW g) (d.files.map FileP.name) d).2 g s) by rw [HR1.out, hlo])
    clear hlo HR1 HBB HEE
    have k1 := (isN_cells h3).2.2.1
    go_wp2_with fail
    refine (rname_any wc g hg100).mono ?_
    rintro e4 w4 ⟨rfl, rfl⟩
    dsimp only
    clear k1
    go_wp2_with fail
    refine (rfiles_any u _ _ p d h3.s2).mono ?_
    rintro e5 w5 ⟨af, cf, rfl, h5⟩
    dsimp only
    clear h3
    obtain ⟨S, hS, h6⟩ := isMFs_iff.1 h5
    have hSl : S.length = d.files.length := by rw [← hS, List.length_map]
    have HS := Lib.hid hS
    have hmany : S.length ≤ 1000000 := by rw [hSl]; exact OK.out.1.many
    have h30 : Sat u w5 (ownRow 9 1 (.slice none 0 0) 0 [] * (ownRow 130 2 (.slice af S.length cf) S.length (S.flatMap cellsM) * (roM S * (isN l p ⟨g, s, [], 0, 0, 0⟩ * (isM p d * F))))) := by
      rw [hSl]
      rw [hSl] at h6
      exact Sat.row_nil (h6.eq (by ac_rfl))
    rw [← hSl]
    have HSL := Lib.hid hSl
    clear hS h5 h6 hSl
    go_wp2_with fail
    go_loopw [11, 13] (fun t11 t13 wr => ∃ (k : Nat) (a' : Option Addr) (c' : Nat) (T : List Bs), k ≤ S.length ∧ t13 = .int .i64 k ∧ T = ((d.files.take k).map FileP.name).filter (toRemove (nameW g)) ∧ t11 = .slice a' T.length c' ∧
      Sat u wr (ownS (.slice a' T.length c') T * (ownRow 130 2 (.slice af S.length cf) S.length (S.flatMap cellsM) * (roM S * (isN l p ⟨g, s, [], 0, 0, 0⟩ * (isM p d * F)))))) (fun _ t _ => S.length - (intOf t).toNat)
    case atStart => exact ⟨0, none, 0, [], Nat.zero_le _, rfl, rfl, rfl, h30⟩
    case round =>
      clear h30
      obtain ⟨k, a', c', T, hk, rfl, hT, rfl, h7⟩ := hrel
      have HT := Lib.hid hT
      clear hT
      by_cases hlt : k < S.length
      · obtain ⟨y, hy⟩ : ∃ y, S[k]? = some y := ⟨S[k]'(by omega), List.getElem?_eq_getElem _⟩
        have hf : d.files[k]? = some y.1 := by rw [← HS.out, List.getElem?_map, hy]; rfl
        obtain ⟨gg, rfl, hcm⟩ := Sat.fileM h7.right hy
        obtain ⟨d0, _⟩ := hcm wr h7.right
        have y1 : (k : Int) < S.length := by omega
        have HLT := Lib.hid hlt
        clear hy hcm
        have hnl := HNL.out y.1 (List.mem_of_getElem? hf)
        go_upto_region 18 with fail
        have hcut1 : ∀ q, q = toRemove (nameW g) y.1.name → q = toRemove (nameW g) y.1.name := fun _ h => h
        clear hcut1
        go_cut [73, 74, 75, 76, 77, 78, 79, 80, 81, 82, 83, 84, 85, 86, 87, 88, 89] (fun _ _ _ _ _ _ _ _ _ _ _ _ _ _ _ _ t89 wx => t89 = .bool (toRemove (nameW g) y.1.name) ∧ wx = wr)
        case first J K' hJ hmet =>
          have HASK := Lib.hid (remove_ask (nameW g) y.1.name)
          have HJ := Lib.hid hJ
          generalize y.1.name = n at HASK HJ hnl ⊢
          generalize toRemove (nameW g) n = ans at HASK HJ
          have e0 : (str n).toList = n := str_toList n
          have e4 : ((str n).extract 0 4).toList = n.take 4 := by rw [str_take, str_toList]
          have eo : (str (nameW g)).toList = nameW g := str_toList _
          clear hJ
          by_cases q1 : n = tmpN
          · have p1 : (str n).toList = [99, 107, 46, 116, 109, 112] := e0.trans q1
            have E := Lib.hid (show ans = true by rw [HASK.out, decide_eq_true q1]; rfl)
            clear e0 e4 eo q1
            go_wp2_with fail
            have hJ := HJ.out
            go_meet
            exact ⟨by rw [E.out], rfl⟩
          have p1 : ¬ (str n).toList = [99, 107, 46, 116, 109, 112] := fun h => q1 (e0.symm.trans h)
          have p1b : ((str n).toList == [99, 107, 46, 116, 109, 112]) = false := by rw [beq_eq_false_iff_ne]; exact p1
          by_cases q2 : 4 ≤ n.length
          case neg =>
            have p2 : ¬ (4 : Int) ≤ n.length := by omega
            have E := Lib.hid (show ans = false by rw [HASK.out, decide_eq_false q1, decide_eq_false q2]; rfl)
            clear e0 e4 eo q1 q2
            go_wp2_with fail
            have hJ := HJ.out
            go_meet
            exact ⟨by rw [E.out], rfl⟩
          have p2 : (4 : Int) ≤ n.length := by omega
          by_cases q3 : n.take 4 = logPre
          case neg =>
            have p3 : ¬ ((str n).extract 0 4).toList = [108, 111, 103, 46] := fun h => q3 (e4.symm.trans h)
            have p3b : (((str n).extract 0 4).toList == [108, 111, 103, 46]) = false := by rw [beq_eq_false_iff_ne]; exact p3
            have E := Lib.hid (show ans = false by rw [HASK.out, decide_eq_false q1, decide_eq_true q2, decide_eq_false q3]; rfl)
            clear e0 e4 eo q1 q2 q3
            go_wp2_with fail
            have hJ := HJ.out
            go_meet
            exact ⟨by rw [E.out], rfl⟩
          have p3 : ((str n).extract 0 4).toList = [108, 111, 103, 46] := e4.trans q3
          by_cases q4 : n = nameW g
          · have p4 : (str n).toList = (str (nameW g)).toList := by rw [e0, eo]; exact q4
            have p4b : ((str n).toList == (str (nameW g)).toList) = true := by rw [beq_iff_eq]; exact p4
            have E := Lib.hid (show ans = false by rw [HASK.out, decide_eq_false q1, decide_eq_true q2, decide_eq_true q3]; simp [q4])
            clear e0 e4 eo q1 q2 q3 q4 p4
            go_wp2_with fail
            have hJ := HJ.out
            go_meet
            exact ⟨by rw [E.out], rfl⟩
          · have p4 : ¬ (str n).toList = (str (nameW g)).toList := fun h => q4 (by rw [e0, eo] at h; exact h)
            have p4b : ((str n).toList == (str (nameW g)).toList) = false := by rw [beq_eq_false_iff_ne]; exact p4
            have E := Lib.hid (show ans = true by rw [HASK.out, decide_eq_false q1, decide_eq_true q2, decide_eq_true q3]; simp [q4])
            clear e0 e4 eo q1 q2 q3 q4
            go_wp2_with fail
            have hJ := HJ.out
            go_meet
            exact ⟨by rw [E.out], rfl⟩
        case rest =>
          obtain ⟨rfl, rfl⟩ := hcut
          have hstep : ((d.files.take (k + 1)).map FileP.name).filter (toRemove (nameW g)) = T ++ (if toRemove (nameW g) y.1.name then [y.1.name] else []) := by
            obtain ⟨hkl, hke⟩ := List.getElem?_eq_some_iff.1 hf
            rw [List.take_succ_eq_append_getElem hkl, hke, List.map_append, List.filter_append, HT.out]
            congr 1
            rw [List.map_cons, List.map_nil, List.filter_cons]
            split <;> simp
          have HSTEP := Lib.hid hstep
          have htl : T.length ≤ 1000000 := by
            rw [HT.out]
            refine Nat.le_trans (List.length_filter_le _ _) ?_
            rw [List.length_map, List.length_take]
            omega
          clear hstep hf d0
          generalize y.1.name = n at HSTEP hnl ⊢
          rcases htr : toRemove (nameW g) n with _ | _
          · have E := HSTEP.out
            rw [htr, if_neg (by simp), List.append_nil] at E
            have HE := Lib.hid E
            clear htr E
            go_wp2_with fail
            go_roundw
            case rel => exact ⟨k + 1, a', c', T, HLT.out, by go_num, HE.out.symm, rfl, h7⟩
            case measure => have hl := HLT.out; simp [intOf]; omega
          · have E := HSTEP.out
            rw [htr, if_pos rfl] at E
            have HE := Lib.hid E
            have h8 : Sat u wc (ownRow 9 1 (.slice a' T.length c') T.length (T.map fun s => Value.string (str s)) * (ownRow 130 2 (.slice (some ⟨gg, 0, none⟩) S.length cf) S.length (S.flatMap cellsM) * (roM S * (isN l p ⟨g, s, [], 0, 0, 0⟩ * (isM p d * F))))) := h7
            have h9 := h8.alloc (.cells #[.string (str n)] 9)
            obtain ⟨i0, hi, hz0, hz1, hz2⟩ := info_parts info_str
            clear htr E h7 h8
            go_wp2_with (at_builtin; refine wpList_append_sl rfl _ _ 32 rfl i0 _ Tryz.underlying32 hi hz0 hz1 hz2 rfl (by decide) rfl rfl h9.right (text_row n h9) rfl (text_one n) (by omega) ?_; intro a10 c10 w10 h10 hx; clear hx)
            go_roundw
            case rel =>
              have hl : (T ++ [n]).length = T.length + 1 := by rw [List.length_append]; rfl
              exact ⟨k + 1, a10, c10, T ++ [n], HLT.out, by go_num, HE.out.symm, by rw [hl], ownS_snoc h10⟩
            case measure => have hl := HLT.out; simp [intOf]; omega
      · have e : k = S.length := by omega
        subst e
        have hTT : T = (d.files.map FileP.name).filter (toRemove (nameW g)) := by
          rw [HT.out, HSL.out, List.take_length]
        have htd : tidyP (nameW g) (d.files.map FileP.name) d = tidyF T d := by rw [tidy_filter, hTT]
        have htl : T.length ≤ 1000000 := by
          rw [hTT]
          refine Nat.le_trans (List.length_filter_le _ _) ?_
          rw [List.length_map, ← HSL.out]
          exact hmany
        have hTn : ∀ n ∈ T, n.length ≤ 1000000000 := by
          intro n hn
          rw [hTT] at hn
          obtain ⟨f, hf, rfl⟩ := List.mem_map.1 (List.mem_filter.1 hn).1
          exact HNL.out f hf
        have HTN := Lib.hid hTn
        have e := HR2.out
        rw [htd] at e
        have HR3 := Lib.hid e
        have h8 : Sat u wr (ownS (.slice a' T.length c') T * (isN l p ⟨g, s, [], 0, 0, 0⟩ * (isM p d * F))) := (h7.eq (show _ = (ownRow 130 2 (.slice af S.length cf) S.length (S.flatMap cellsM) * roM S) * (ownS (.slice a' T.length c') T * (isN l p ⟨g, s, [], 0, 0, 0⟩ * (isM p d * F))) by ac_rfl)).right
        clear hTT htd hTn e h7 HR2
        go_wp2_with fail
        go_loopw [6, 15] (fun _ t15 wr => ∃ (j : Nat) (d1 : DiskP), j ≤ T.length ∧ t15 = .int .i64 j ∧ tidyF (T.drop j) d1 = tidyF T d ∧ d1.files.length ≤ 1000000 ∧ d1.quota ≤ 900000 ∧ Sat u wr (ownS (.slice a' T.length c') T * (isN l p ⟨g, s, [], 0, 0, 0⟩ * (isM p d1 * F)))) (fun _ t _ => T.length - (intOf t).toNat)
        case atStart => exact ⟨0, d, Nat.zero_le _, rfl, rfl, OK.out.1.many, hq, h8⟩
        case round =>
          clear h8
          obtain ⟨j, d1, hj, rfl, htd, hm1, hq1, h9⟩ := hrel
          have HTD := Lib.hid htd
          clear htd
          by_cases hjl : j < T.length
          · obtain ⟨n, hn⟩ : ∃ n, T[j]? = some n := ⟨_, List.getElem?_eq_getElem hjl⟩
            obtain ⟨gn, rfl, n0⟩ := ownS_get h9 hn
            have hnl := HTN.out n (List.mem_of_getElem? hn)
            have y1 : (j : Int) < T.length := by omega
            have hdr : T.drop j = n :: T.drop (j + 1) := by
              obtain ⟨hl, rfl⟩ := List.getElem?_eq_some_iff.1 hn
              exact List.drop_eq_getElem_cons hl
            have htd := HTD.out
            rw [hdr] at htd
            rw [tidyF_cons] at htd
            have HTD2 := Lib.hid htd
            have HJL := Lib.hid hjl
            clear hn hdr htd
            go_wp2_with fail
            refine (rremove_any u wr _ p d1 n hnl (h9.eq (show _ = isM p d1 * (ownS (.slice (some ⟨gn, 0, none⟩) T.length c') T * (isN l p ⟨g, s, [], 0, 0, 0⟩ * F)) by ac_rfl))).mono ?_
            rintro e w10 ⟨rfl, h10⟩
            dsimp only
            clear h9 n0
            obtain ⟨x, hx⟩ : ∃ x, removeD d1 n = x := ⟨_, rfl⟩
            have htd := HTD2.out
            rw [hx] at h10 htd ⊢
            have hxm : x.2.files.length ≤ d1.files.length ∧ x.2.quota = d1.quota := by
              rw [← hx]
              unfold removeD
              split
              · exact ⟨Nat.le_refl _, rfl⟩
              · split
                · split
                  · exact ⟨List.length_filter_le _ _, stepD_quota d1⟩
                  · exact ⟨by rw [stepD_files]; exact Nat.le_refl _, stepD_quota d1⟩
                · exact ⟨Nat.le_refl _, rfl⟩
            obtain ⟨hxm1, hxm2⟩ := hxm
            have hxq : x.2.quota ≤ 900000 := by rw [hxm2]; exact hq1
            clear hxm2 hx
            by_cases hx0 : x.1 = 0
            · rw [if_neg (by simp [hx0])] at htd
              have HTD3 := Lib.hid htd
              rw [hx0]
              have h11 : Sat u w10 (ownS (.slice (some ⟨gn, 0, none⟩) T.length c') T * (isN l p ⟨g, s, [], 0, 0, 0⟩ * (isM p x.2 * F))) := h10.eq (by ac_rfl)
              clear htd h10 hx0
              go_wp2_with fail
              go_roundw
              case rel => exact ⟨j + 1, x.2, HJL.out, by go_num, HTD3.out, by omega, hxq, h11⟩
              case measure => have hl := HJL.out; simp [intOf]; omega
            · rw [if_pos hx0] at htd
              have e := HR3.out
              rw [← htd, if_pos hx0] at e
              have E := Lib.hid e
              have hz : (x.1 != 0) = true := by simpa using hx0
              have H := Lib.hid (h10.eq (show _ = (ownS (.slice (some ⟨gn, 0, none⟩) T.length c') T * isN l p ⟨g, s, [], 0, 0, 0⟩) * (isM p x.2 * F) by ac_rfl)).right
              clear htd h10 hx0 e
              go_wp2_with fail
              go_ret2
              unfold OpenedN
              rw [E.out]
              exact ⟨rfl, H.out⟩
          · have e : j = T.length := by omega
            subst e
            have htd := HTD.out
            rw [List.drop_length] at htd
            have htd2 : (0, d1) = tidyF T d := htd
            have e := HR3.out
            rw [← htd2, if_neg (by simp)] at e
            have HR4 := Lib.hid e
            have h10 : Sat u wr (isN l p ⟨g, s, [], 0, 0, 0⟩ * (isM p d1 * F)) := h9.right
            clear htd htd2 e h9
            have hnw : (nameW g).length ≤ 1000000000 := by have := nameW_len g; omega
            go_wp2_with fail
            refine (rread_any u wr _ p d1 (nameW g) hnw h10.s2).mono ?_
            rintro e w11 ⟨a11, c11, rfl, h11⟩
            dsimp only
            clear h10
            have hlast : lastP d1 g s = if (readD d1 (nameW g)).2 ≠ 0 then (0, some ⟨g, s, [], 0, 0, 0⟩, d1) else
              (if (if (scanP ((readD d1 (nameW g)).1.length + 1) 1 (readD d1 (nameW g)).1).2 < (readD d1 (nameW g)).1.length then driesD d1 (nameW g) (nameW g) (cutL (scanP ((readD d1 (nameW g)).1.length + 1) 1 (readD d1 (nameW g)).1).2) else driesD d1 (nameW g) (nameW g) wholeL).1 ≠ 0
               then ((if (scanP ((readD d1 (nameW g)).1.length + 1) 1 (readD d1 (nameW g)).1).2 < (readD d1 (nameW g)).1.length then driesD d1 (nameW g) (nameW g) (cutL (scanP ((readD d1 (nameW g)).1.length + 1) 1 (readD d1 (nameW g)).1).2) else driesD d1 (nameW g) (nameW g) wholeL).1, none, (if (scanP ((readD d1 (nameW g)).1.length + 1) 1 (readD d1 (nameW g)).1).2 < (readD d1 (nameW g)).1.length then driesD d1 (nameW g) (nameW g) (cutL (scanP ((readD d1 (nameW g)).1.length + 1) 1 (readD d1 (nameW g)).1).2) else driesD d1 (nameW g) (nameW g) wholeL).2)
               else (0, some ⟨g, s, (scanP ((readD d1 (nameW g)).1.length + 1) 1 (readD d1 (nameW g)).1).1, (scanP ((readD d1 (nameW g)).1.length + 1) 1 (readD d1 (nameW g)).1).1.length, (scanP ((readD d1 (nameW g)).1.length + 1) 1 (readD d1 (nameW g)).1).2, 0⟩, (if (scanP ((readD d1 (nameW g)).1.length + 1) 1 (readD d1 (nameW g)).1).2 < (readD d1 (nameW g)).1.length then driesD d1 (nameW g) (nameW g) (cutL (scanP ((readD d1 (nameW g)).1.length + 1) 1 (readD d1 (nameW g)).1).2) else driesD d1 (nameW g) (nameW g) wholeL).2)) := rfl
            have hbs2 := readD_small (isM_iff.1 h11.right).1.1 hq1 (nameW g)
            have e := HR4.out
            rw [hlast] at e
            generalize (readD d1 (nameW g)).1 = bb at h11 e hbs2 ⊢
            generalize (readD d1 (nameW g)).2 = e2 at e ⊢
            clear hlast HR4
            by_cases he2 : e2 = 0
            case neg =>
              rw [if_pos he2] at e
              have E := Lib.hid e
              have hz : (e2 != 0) = true := by simpa using he2
              have H := Lib.hid h11.right.s2
              clear he2 e h11
              go_wp2_with fail
              go_ret2
              unfold OpenedN
              rw [E.out]
              exact ⟨l, rfl, H.out⟩
            subst he2
            rw [if_neg (by simp)] at e
            have HR5 := Lib.hid e
            clear e
            have h12 : Sat u w11 (isN l p ⟨g, s, [], 0, 0, 0⟩ * (roB (.slice a11 bb.length c11) bb * (isM p d1 * F))) := h11.eq (by ac_rfl)
            clear h11
            obtain ⟨sc, hsc⟩ : ∃ x, scanP (bb.length + 1) 1 bb = x := ⟨_, rfl⟩
            have e := HR5.out
            rw [hsc] at e
            have HR6 := Lib.hid e
            have HSC := Lib.hid hsc
            clear e HR5 hsc
            go_wp2_with fail
            have hsc0 := HSC.out
            go_loopw [16, 17, 18] (fun _ _ _ wr => ∃ (RR : List Bs) (z fuel : Nat), z ≤ bb.length ∧ (bb.drop z).length < fuel ∧ (RR ++ (scanP fuel (RR.length + 1) (bb.drop z)).1, z + (scanP fuel (RR.length + 1) (bb.drop z)).2) = sc ∧ RR.length ≤ z ∧ (∀ y ∈ RR, y.length ≤ 900000) ∧
              Sat u wr (isN l p ⟨g, s, RR, 0, z, 0⟩ * (roB (.slice a11 bb.length c11) bb * (isM p d1 * F)))) (fun _ _ _ wr => bb.length - (match wr.cell? ⟨l, 5, none⟩ with | some (.int _ z) => z.toNat | _ => 0))
            case atStart => exact ⟨[], 0, bb.length + 1, Nat.zero_le _, by simp, by rw [← hsc0]; simp, Nat.le_refl _, (fun y hy => by cases hy), h12⟩
            case round =>
              clear h12 hsc0
              obtain ⟨RR, z, fuel, hz, hfu, htot, hrl, hrs, h13⟩ := hrel
              obtain ⟨okn, k0, k1, _, ⟨a3, c3, k3⟩, _, k5, _⟩ := isN_cells h13
              have hcap := RowAt.cap (h13.right.roB_at : RowAt wr (.slice a11 bb.length c11) bb.length _)
              have hlb := fun (w' : World) (h' : Sat u w' (isN l p ⟨g, s, RR, 0, z, 0⟩ * (roB (.slice a11 bb.length c11) bb * (isM p d1 * F)))) => (h'.right.roB_at).lasts z hz
              have HTOT := Lib.hid htot
              have HFU := Lib.hid hfu
              have HRS := Lib.hid hrs
              have hdl : (bb.drop z).length = bb.length - z := List.length_drop
              have y1 : (0 : Int) ≤ z := by omega
              have y2 : (z : Int) ≤ bb.length := by omega
              obtain ⟨_, hcap1, hcap2⟩ := hcap
              have y3 : (z : Int) ≤ c11 := by omega
              have hz9 : z ≤ 900000 := by omega
              have hrl9 : RR.length ≤ 900000 := by omega
              have hdl9 : (bb.drop z).length ≤ 900000 := by omega
              have HDL := Lib.hid hdl
              have e1 : IntKind.i64.wrap ((RR.length : Int) + 1) = (RR.length : Int) + 1 := IntWalk.i64_in _ (by omega)
              have hf := readN_facts 82 1048576 (bb.drop z)
              go_upto_region 29 with fail
              go_cut [16, 17, 18] (fun t16 t17 t18 wx => t16 = .string (str (readN 82 1048576 (bb.drop z)).1) ∧ t17 = .int .i64 ((readN 82 1048576 (bb.drop z)).2.1 : Nat) ∧ t18 = .int .i64 ((readN 82 1048576 (bb.drop z)).2.2 : Nat) ∧ Sat u wx (isN l p ⟨g, s, RR, 0, z, 0⟩ * (roB (.slice a11 bb.length c11) bb * (isM p d1 * F))))
              case first J K' hJ hmet =>
                by_cases hcz : c11 = z
                · subst hcz
                  rw [if_pos rfl, show bb.length - c11 = 0 from by omega, Nat.sub_self] at hlb
                  have HLB := Lib.hid hlb
                  clear hlb hdl
                  go_wp2_with fail
                  refine (nread_any u wr _ 82 1048576 (bb.drop c11) _ (by decide) hdl9 (fun w' h' => HLB.out w' h') h13).mono ?_
                  rintro e w14 ⟨rfl, h14⟩
                  dsimp only
                  clear h13
                  generalize readN 82 1048576 (bb.drop c11) = q at hJ ⊢
                  go_wp2_with fail
                  go_meet
                  exact ⟨rfl, rfl, rfl, h14⟩
                · rw [if_neg hcz] at hlb
                  have HLB := Lib.hid hlb
                  clear hlb hdl
                  go_wp2_with fail
                  rw [← HDL.out]
                  refine (nread_any u wr _ 82 1048576 (bb.drop z) _ (by decide) hdl9 (fun w' h' => by have := HLB.out w' h'; rwa [← HDL.out] at this) h13).mono ?_
                  rintro e w14 ⟨rfl, h14⟩
                  dsimp only
                  clear h13
                  generalize readN 82 1048576 (bb.drop z) = q at hJ ⊢
                  go_wp2_with fail
                  go_meet
                  exact ⟨rfl, rfl, rfl, h14⟩
              case rest =>
                obtain ⟨rfl, rfl, rfl, h14⟩ := hcut
                have K5 := Lib.hid k5
                clear h13 hlb k0 k1 k3 k5 htot hfu hrs okn hdl
                obtain ⟨hf1, hf2, hf3, hf4⟩ := hf
                have htot := HTOT.out
                go_upto_region 30 with fail
                go_cut [129, 130, 131, 132, 133, 134, 135, 136, 137, 138, 139, 140] (fun _ _ _ _ _ _ _ _ _ _ _ t140 wx => t140 = .bool (decide ((readN 82 1048576 (bb.drop z)).2.2 = 0 ∨ (readN 82 1048576 (bb.drop z)).2.1 ≠ RR.length + 1)) ∧ wx = wc)
                case first J K' hJ hmet =>
                  have HJ := Lib.hid hJ
                  clear hJ htot
                  obtain ⟨okn, _, _, _, ⟨a15, c15, k15⟩, _, _, _⟩ := isN_cells h14
                  generalize readN 82 1048576 (bb.drop z) = q at HJ hf1 hf2 hf3 hf4 ⊢
                  by_cases q0 : q.2.2 = 0
                  · have z1 : ((q.2.2 : Int) == 0) = true := by rw [beq_iff_eq]; omega
                    have E := Lib.hid (show decide (q.2.2 = 0 ∨ q.2.1 ≠ RR.length + 1) = true from decide_eq_true (.inl q0))
                    clear q0 hf4
                    go_wp2_with fail
                    have hJ := HJ.out
                    go_meet
                    exact ⟨by rw [E.out], rfl⟩
                  have z1 : ((q.2.2 : Int) == 0) = false := by rw [beq_eq_false_iff_ne]; omega
                  by_cases q1 : q.2.1 = RR.length + 1
                  · have z2 : ((q.2.1 : Int) != (RR.length : Int) + 1) = false := by rw [bne_eq_false_iff_eq]; omega
                    have E := Lib.hid (show decide (q.2.2 = 0 ∨ q.2.1 ≠ RR.length + 1) = false from decide_eq_false (by rintro (h | h); exact q0 h; exact h q1))
                    clear q0 q1 hf4
                    go_wp2_with fail
                    have hJ := HJ.out
                    go_meet
                    exact ⟨by rw [E.out], rfl⟩
                  · have z2 : ((q.2.1 : Int) != (RR.length : Int) + 1) = true := by rw [bne_iff_ne]; omega
                    have E := Lib.hid (show decide (q.2.2 = 0 ∨ q.2.1 ≠ RR.length + 1) = true from decide_eq_true (.inr q1))
                    clear q0 q1 hf4
                    go_wp2_with fail
                    have hJ := HJ.out
                    go_meet
                    exact ⟨by rw [E.out], rfl⟩
                case rest =>
                  obtain ⟨rfl, rfl⟩ := hcut
                  by_cases hstop : (readN 82 1048576 (bb.drop z)).2.2 = 0 ∨ (readN 82 1048576 (bb.drop z)).2.1 ≠ RR.length + 1
                  · rw [scan_stop hstop, List.append_nil, Nat.add_zero] at htot
                    have e := HR6.out
                    rw [← htot] at e
                    dsimp only at e
                    rw [decide_eq_true hstop]
                    obtain ⟨okn, a15, c15, h15⟩ := isN_iff.1 h14
                    have k3' := h15.cell 3
                    have k4' := h15.cell 4
                    have k5' := h15.cell 5
                    have k0' := h15.cell 0
                    have f4' := h15.free 4
                    have h16 := h15.setCell 4 (.int .i64 RR.length)
                    have okm : OkW ⟨g, s, RR, RR.length, z, 0⟩ := ⟨hg100, (by show RR.length ≤ 1000000000; omega), okn.size, okn.many, okn.state, okn.recs, okn.broken0, okn.broken1⟩
                    have h17 : Sat u _ (isN l p ⟨g, s, RR, RR.length, z, 0⟩ * (roB (.slice a11 bb.length c11) bb * (isM p d1 * F))) := isN_iff.2 ⟨okm, a15, c15, h16⟩
                    by_cases hzl : z < bb.length
                    · rw [if_pos hzl] at e
                      have HE := Lib.hid e
                      have x1 : (z : Int) < bb.length := by omega
                      clear htot hstop h14 h15 h16 okm okn e hzl
                      go_wp2_with fail
                      refine (rcut_any u _ _ p d1 (nameW g) z hnw (h17.eq (show _ = isM p d1 * (roB (.slice a11 bb.length c11) bb * (isN l p ⟨g, s, RR, RR.length, z, 0⟩ * F)) by ac_rfl))).mono ?_
                      rintro e w18 ⟨rfl, h18⟩
                      dsimp only
                      clear h17 k3' k4' k5' k0' f4'
                      have e := HE.out
                      obtain ⟨x, hx⟩ : ∃ x, driesD d1 (nameW g) (nameW g) (cutL z) = x := ⟨_, rfl⟩
                      rw [hx] at h18 e ⊢
                      have HE2 := Lib.hid e
                      clear HE e hx
                      by_cases hx0 : x.1 = 0
                      · have e := HE2.out
                        rw [if_neg (by simp [hx0])] at e
                        have E := Lib.hid e
                        have H := Lib.hid (h18.eq (show _ = roB (.slice a11 bb.length c11) bb * (isN l p ⟨g, s, RR, RR.length, z, 0⟩ * (isM p x.2 * F)) by ac_rfl)).right
                        rw [hx0]
                        clear e h18 hx0
                        go_wp2_with fail
                        go_ret2
                        unfold OpenedN
                        rw [E.out]
                        exact ⟨l, rfl, H.out⟩
                      · have e := HE2.out
                        rw [if_pos hx0] at e
                        have E := Lib.hid e
                        have hz : (x.1 != 0) = true := by simpa using hx0
                        have H := Lib.hid (h18.eq (show _ = (roB (.slice a11 bb.length c11) bb * isN l p ⟨g, s, RR, RR.length, z, 0⟩) * (isM p x.2 * F) by ac_rfl)).right
                        clear e h18 hx0
                        go_wp2_with fail
                        go_ret2
                        unfold OpenedN
                        rw [E.out]
                        exact ⟨rfl, H.out⟩
                    · rw [if_neg hzl] at e
                      have HE := Lib.hid e
                      have x1 : ¬ (z : Int) < bb.length := by omega
                      clear htot hstop h14 h15 h16 okm okn e hzl
                      go_wp2_with fail
                      refine (rsync_any u _ _ p d1 (nameW g) hnw (h17.eq (show _ = isM p d1 * (roB (.slice a11 bb.length c11) bb * (isN l p ⟨g, s, RR, RR.length, z, 0⟩ * F)) by ac_rfl))).mono ?_
                      rintro e w18 ⟨rfl, h18⟩
                      dsimp only
                      clear h17 k3' k4' k5' k0' f4'
                      have e := HE.out
                      obtain ⟨x, hx⟩ : ∃ x, driesD d1 (nameW g) (nameW g) wholeL = x := ⟨_, rfl⟩
                      rw [hx] at h18 e ⊢
                      have HE2 := Lib.hid e
                      clear HE e hx
                      by_cases hx0 : x.1 = 0
                      · have e := HE2.out
                        rw [if_neg (by simp [hx0])] at e
                        have E := Lib.hid e
                        have H := Lib.hid (h18.eq (show _ = roB (.slice a11 bb.length c11) bb * (isN l p ⟨g, s, RR, RR.length, z, 0⟩ * (isM p x.2 * F)) by ac_rfl)).right
                        rw [hx0]
                        clear e h18 hx0
                        go_wp2_with fail
                        go_ret2
                        unfold OpenedN
                        rw [E.out]
                        exact ⟨l, rfl, H.out⟩
                      · have e := HE2.out
                        rw [if_pos hx0] at e
                        have E := Lib.hid e
                        have hz : (x.1 != 0) = true := by simpa using hx0
                        have H := Lib.hid (h18.eq (show _ = (roB (.slice a11 bb.length c11) bb * isN l p ⟨g, s, RR, RR.length, z, 0⟩) * (isM p x.2 * F) by ac_rfl)).right
                        clear e h18 hx0
                        go_wp2_with fail
                        go_ret2
                        unfold OpenedN
                        rw [E.out]
                        exact ⟨rfl, H.out⟩
                  · obtain ⟨hs1, hs2⟩ := not_or.1 hstop
                    have hs3 := Classical.byContradiction hs2
                    rw [decide_eq_false hstop]
                    have h17 := hf4 hs1
                    have hnext : ∃ fuel', (bb.drop (z + (readN 82 1048576 (bb.drop z)).2.2)).length < fuel' ∧ ((RR ++ [(readN 82 1048576 (bb.drop z)).1]) ++ (scanP fuel' ((RR ++ [(readN 82 1048576 (bb.drop z)).1]).length + 1) (bb.drop (z + (readN 82 1048576 (bb.drop z)).2.2))).1, z + (readN 82 1048576 (bb.drop z)).2.2 + (scanP fuel' ((RR ++ [(readN 82 1048576 (bb.drop z)).1]).length + 1) (bb.drop (z + (readN 82 1048576 (bb.drop z)).2.2))).2) = sc := by
                      have hfu := HFU.out
                      obtain ⟨f', rfl⟩ : ∃ f', fuel = f' + 1 := ⟨fuel - 1, by omega⟩
                      refine ⟨f', ?_, ?_⟩
                      · rw [List.length_drop] at hfu hf1 ⊢
                        omega
                      · rw [scan_go hs1 hs3, List.drop_drop] at htot
                        rw [← htot]
                        have hl : (RR ++ [(readN 82 1048576 (bb.drop z)).1]).length = RR.length + 1 := by rw [List.length_append]; rfl
                        rw [hl, List.append_assoc, Nat.add_assoc z]
                        rfl
                    have HNEXT := Lib.hid hnext
                    have hzz : z + (readN 82 1048576 (bb.drop z)).2.2 ≤ bb.length := by rw [List.length_drop] at hf1; omega
                    have HRL := Lib.hid hrl
                    clear hstop hs1 hs2 hs3 htot hf4 hnext
                    generalize readN 82 1048576 (bb.drop z) = q at HNEXT hf1 hf2 hf3 h17 hzz ⊢
                    obtain ⟨s1, n1, k1⟩ := q
                    dsimp only at HNEXT hf1 hf2 hf3 h17 hzz ⊢
                    obtain ⟨okn, a15, c15, h15⟩ := isN_iff.1 h14
                    have k3' := h15.cell 3
                    have f3' := h15.free 3
                    obtain ⟨i0, hi, hz0, hz1, hz2⟩ := info_parts info_str
                    have h16 := h15.alloc (.cells #[.string (str s1)] 9)
                    have h18 : Sat u _ (ownRow 9 1 (.slice a15 RR.length c15) RR.length (RR.map fun s => Value.string (str s)) * (own l (headN p (.slice a15 RR.length c15) ⟨g, s, RR, 0, z, 0⟩) * (roB (.slice a11 bb.length c11) bb * (isM p d1 * F)))) := h16.right.s2
                    clear h14 h15
                    go_upto_region 32 with (at_builtin; refine wpList_append_sl rfl _ _ 32 rfl i0 _ Tryz.underlying32 hi hz0 hz1 hz2 rfl (by decide) rfl rfl h18 (text_row s1 h16) rfl (text_one s1) (by omega) ?_; intro a19 c19 w19 h19 hx; clear hx; have f19 := h19.right.free 3; have c19' := h19.right.cell 3)
                    have h20 : Sat u _ (own l (headN p (.slice a19 (RR.length + 1) c19) ⟨g, s, RR, 0, z, 0⟩) * _) := h19.s2.setCell 3 (.slice a19 (RR.length + 1) c19)
                    generalize w19.setCell ⟨l, 3, none⟩ (.slice a19 (RR.length + 1) c19) = w20 at h20 ⊢
                    clear h16 h18 h19 f19 c19' k3' f3'
                    have c5' := h20.cell 5
                    have f5' := h20.free 5
                    have e5 : IntKind.i64.wrap ((z : Int) + (k1 : Int)) = (z : Int) + (k1 : Int) := IntWalk.i64_in _ (by omega)
                    have h21 := h20.setCell 5 (.int .i64 ((z : Int) + (k1 : Int)))
                    have hrl' : (RR ++ [s1]).length = RR.length + 1 := by rw [List.length_append]; rfl
                    have hrs' : ∀ y ∈ RR ++ [s1], y.length ≤ 900000 := fun y hy => by
                      rcases List.mem_append.1 hy with hy | hy
                      · exact HRS.out y hy
                      · rw [List.mem_singleton.1 hy]; omega
                    have okq : OkW ⟨g, s, RR ++ [s1], 0, z + k1, 0⟩ := ⟨hg100, by show 0 ≤ 1000000000; omega, by show z + k1 ≤ 1000000000; omega, by show (RR ++ [s1]).length ≤ 1000000; omega, okn.state, (fun y hy => Nat.le_trans (hrs' y hy) (by decide)), okn.broken0, okn.broken1⟩
                    have h22 : Sat u _ (isN l p ⟨g, s, RR ++ [s1], 0, z + k1, 0⟩ * (roB (.slice a11 bb.length c11) bb * (isM p d1 * F))) := isN_iff.2 ⟨okq, a19, c19, by
                      show Sat u _ (own l (headN p (.slice a19 (RR ++ [s1]).length c19) ⟨g, s, RR ++ [s1], 0, z + k1, 0⟩) * (ownS (.slice a19 (RR ++ [s1]).length c19) (RR ++ [s1]) * _))
                      unfold ownS
                      rw [hrl', List.map_append]
                      exact h21⟩
                    have c5n := (isN_cells h22).2.2.2.2.2.2.1
                    have H22 := Lib.hid h22
                    have C5N := Lib.hid c5n
                    have HRS2 := Lib.hid hrs'
                    have HRL2 := Lib.hid hrl'
                    clear h20 h21 h22 c5n hrl' hrs' okq okn
                    go_wp2_with fail
                    go_roundw
                    case rel =>
                      obtain ⟨f', q1, q2⟩ := HNEXT.out
                      exact ⟨RR ++ [s1], z + k1, f', hzz, q1, q2, by rw [HRL2.out]; have := HRL.out; omega, HRS2.out, H22.out⟩
                    case measure =>
                      rw [K5.out, C5N.out]
                      show bb.length - ((z + k1 : Nat) : Int).toNat < bb.length - (z : Int).toNat
                      omega
end
end Go.Proofs.YtlfmkiclaijokaaGreatDoor
