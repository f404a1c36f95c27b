/- WalPlays: any calls at which no number grows too great. wal: what a log that is none answers. WalKnown: a great log, plain. -/
import Derived.Test.YtlfmkiclaijokaaGreatDoorMk37
import Derived.Test.YtlfmkiclaijokaaGreatDoorMk24
namespace Go.Proofs.YtlfmkiclaijokaaGreatDoor
open Go.RowKit
set_option linter.unusedVariables false

/-- A disk, the log over it, what its opening answered. -/
structure StP where
  d : DiskP
  o : Option WalP
  e : Int

def openS (d : DiskP) : StP := ⟨(openW d).2.2, (openW d).2.1, (openW d).1⟩

/-- The disk that is opened. -/
def backD (x : CallV) (d : DiskP) : DiskP := if x.kind % 12 = 9 then d else if x.kind % 12 = 11 then failD (onD (crashD d) x.keep) (x.n.tmod 5) else onD (crashD d) x.keep

def stepS (x : CallV) (s : StP) : StP :=
  if x.kind % 12 = 7 then { s with d := failD s.d (x.n.tmod 9) }
  else if x.kind % 12 = 10 then { s with d := (appendD s.d x.name.data.toList x.b).2 }
  else if x.kind % 12 = 8 ∨ x.kind % 12 = 11 ∨ x.kind % 12 = 9 then openS (backD x s.d)
  else match s.o with
    | some W => ⟨(doesW x.kind s.d W x.b).2.2, some (doesW x.kind s.d W x.b).2.1, s.e⟩
    | none => s

/-- May a disk be opened? -/
def okO (d : DiskP) : Bool := decide (d.quota ≤ 900000) && (d.files.all fun f => decide (f.name.length ≤ 1000)) && (match loadP d with | some (_, g) => decide (g < 90) | none => true)

def okS (s : StP) : Bool := goodD s.d && decide (s.d.files.length < 1000) &&
  (match s.o with | some W => s.e == 0 && decide (W.recs.length < 1000) && decide (W.size < 1000000) && decide (W.gen < 90) | none => s.e != 0)

def okX (x : CallV) (s : StP) : Bool := okS s && (if x.kind % 12 = 8 ∨ x.kind % 12 = 11 ∨ x.kind % 12 = 9 then okO (backD x s.d) else true)

def playsOk : List CallV → StP → Bool
  | [], s => okS s
  | x :: l, s => okX x s && playsOk l (stepS x s)

/-- The logs in memory, if there is one. -/
def logsO (o : Option WalP) (l k p q : Nat) : HProp := match o with
  | some W => isL l p W * isN k q W
  | none => fact True

def ptrO (o : Option WalP) (l : Nat) : Value := match o with
  | some _ => .pointer (some ⟨l, 0, none⟩)
  | none => .pointer none

theorem ptrO_none (l : Nat) : ptrO none l = .pointer none := rfl
theorem ptrO_some (W : WalP) (l : Nat) : ptrO (some W) l = .pointer (some ⟨l, 0, none⟩) := rfl

theorem okO_facts {d : DiskP} (h : okO d = true) : d.quota ≤ 900000 ∧ (∀ f ∈ d.files, f.name.length ≤ 1000000000) ∧ ∀ s g, loadP d = some (s, g) → g < 100 := by
  unfold okO at h
  simp only [Bool.and_eq_true, decide_eq_true_eq, List.all_eq_true] at h
  obtain ⟨⟨h1, h2⟩, h3⟩ := h
  refine ⟨h1, fun f hf => by have := h2 f hf; omega, fun s g hl => ?_⟩
  rw [hl] at h3
  simp only [decide_eq_true_eq] at h3
  omega

def logO (o : Option WalP) (l p : Nat) : HProp := match o with
  | some W => isL l p W
  | none => fact True
def lognO (o : Option WalP) (k q : Nat) : HProp := match o with
  | some W => isN k q W
  | none => fact True

/-- What openings answer. -/
theorem opened_o {u w : World} {F : HProp} {p : Nat} {R : Int × Option WalP × DiskP} {e : Ending} (h : Opened u F p R e w) : ∃ l, e = .returned (.tuple #[ptrO R.2.1 l, .int .i64 R.1]) ∧ Sat u w (logO R.2.1 l p * (isD p R.2.2 * F)) := by
  obtain ⟨r1, _ | W, r2⟩ := R
  · exact ⟨0, h.1, Sat.fact_iff.2 ⟨trivial, h.2⟩⟩
  · exact h

theorem openedN_o {u w : World} {F : HProp} {p : Nat} {R : Int × Option WalP × DiskP} {e : Ending} (h : OpenedN u F p R e w) : ∃ l, e = .returned (.tuple #[ptrO R.2.1 l, .int .i64 R.1]) ∧ Sat u w (lognO R.2.1 l p * (isM p R.2.2 * F)) := by
  obtain ⟨r1, _ | W, r2⟩ := R
  · exact ⟨0, h.1, Sat.fact_iff.2 ⟨trivial, h.2⟩⟩
  · exact h

theorem logs_o {u w : World} {o : Option WalP} {l k p q : Nat} {G : HProp} (h : Sat u w (lognO o k q * (logO o l p * G))) : Sat u w (logsO o l k p q * G) := by
  rcases o with _ | W
  · exact (Sat.fact_iff.1 h).2
  · exact h.eq (by show isN k q W * (isL l p W * G) = isL l p W * isN k q W * G; ac_rfl)

section
variable (u w : World) (F : HProp) (a : Option Addr) (n c : Nat) (cs : List CallV) (quota : Int)

set_option maxRecDepth 100000 in
set_option maxHeartbeats 16000000 in
theorem wplays_any (hA : ∀ w', Sat u w' F → CallsAt w' a n c cs) (h0 : -9223372036854775808 ≤ quota) (h1 : quota ≤ 9223372036854775807) (hok : okO (newD quota) = true) (hplay : playsOk cs (openS (newD quota)) = true) (hs : Sat u w F) :
    Calls Tryz.prog 26 #[.int .i64 quota, .slice a n c] w fun e w' => e = .returned (.bool true) ∧ Sat u w' F := by
  have hn : n = cs.length := (hA w hs).len
  have HA := Lib.hid hA
  have HN := Lib.hid hn
  have HPLAY := Lib.hid hplay
  clear hA hn hplay
  go_enter Tryz.func26, Tryz.ntmps26
  go_wp2_with fail
  refine (large_any u w F a n c cs HA.out hs).mono ?_
  rintro e w1 ⟨r, rfl, hr, h2⟩
  dsimp only
  clear hs
  rcases r with _ | _
  rotate_left
  · clear hr
    go_wp2_with fail
    refine (wworks_any u w1 F h2).mono ?_
    rintro e w2 ⟨rfl, h3⟩
    dsimp only
    go_wp2_with fail
    go_ret
    exact ⟨rfl, h3⟩
  obtain ⟨hn6, htot⟩ := hr rfl
  clear hr
  go_wp2_with fail
  refine (dnew_any u w1 F quota h0 h1 h2).mono ?_
  rintro e w2 ⟨p, rfl, h3⟩
  dsimp only
  clear h2
  go_wp2_with fail
  refine (rnew_any u w2 _ quota h0 h1 h3).mono ?_
  rintro e w3 ⟨q, rfl, h4⟩
  dsimp only
  clear h3
  obtain ⟨hq9, hnl, hg9⟩ := okO_facts hok
  clear hok
  go_wp2_with fail
  refine (lopen_any u w3 _ p _ hnl hg9 h4.s2).mono ?_
  intro e w4 h5
  obtain ⟨l0, rfl, h6⟩ := opened_o h5
  dsimp only
  clear h4 h5
  go_wp2_with fail
  refine (nopen_any u w4 _ q _ hq9 hnl hg9 (h6.eq (show _ = isM q (newD quota) * (logO (openW (newD quota)).2.1 l0 p * (isD p (openW (newD quota)).2.2 * F)) by ac_rfl))).mono ?_
  intro e w5 h7
  obtain ⟨k0, rfl, h8⟩ := openedN_o h7
  dsimp only
  have h9 : Sat u w5 (logsO (openS (newD quota)).o l0 k0 p q * (isD p (openS (newD quota)).d * (isM q (openS (newD quota)).d * F))) := logs_o (h8.eq (by show lognO (openW (newD quota)).2.1 k0 q * (isM q (openW (newD quota)).2.2 * (logO (openW (newD quota)).2.1 l0 p * (isD p (openW (newD quota)).2.2 * F))) = lognO (openW (newD quota)).2.1 k0 q * (logO (openW (newD quota)).2.1 l0 p * (isD p (openW (newD quota)).2.2 * (isM q (openW (newD quota)).2.2 * F))); ac_rfl))
  clear h6 h7 h8
  obtain ⟨s0, hs0⟩ : ∃ s, openS (newD quota) = s := ⟨_, rfl⟩
  have e1 : (openW (newD quota)).2.1 = s0.o := by rw [← hs0]; rfl
  have e2 : (openW (newD quota)).1 = s0.e := by rw [← hs0]; rfl
  have hp0 := HPLAY.out
  rw [hs0] at h9 hp0
  rw [e1, e2]
  have HP0 := Lib.hid hp0
  clear e1 e2 hs0 hp0 HPLAY hq9 hnl hg9
  have hn60 : n ≤ 60 := by rw [HN.out]; exact hn6
  go_wp2_with fail
  go_loopw [7, 8, 9, 10, 11] (fun t7 t8 t9 t10 t11 wr => ∃ (j : Nat) (s : StP) (l k : Nat), j ≤ n ∧ t11 = .int .i64 j ∧ t7 = ptrO s.o l ∧ t8 = .int .i64 s.e ∧ t9 = ptrO s.o k ∧ t10 = .int .i64 s.e ∧ playsOk (cs.drop j) s = true ∧
    Sat u wr (logsO s.o l k p q * (isD p s.d * (isM q s.d * F)))) (fun _ _ _ _ t11 _ => n - (intOf t11).toNat)
  case atStart => exact ⟨0, s0, l0, k0, Nat.zero_le _, rfl, rfl, rfl, rfl, rfl, HP0.out, h9⟩
  case round =>
    clear h9 HP0
    obtain ⟨j, s, l, k, hj, rfl, rfl, rfl, rfl, rfl, hpl, h10⟩ := hrel
    have HPL := Lib.hid hpl
    clear hpl
    by_cases hlt : j < n
    · obtain ⟨ob, o, x, ab, cb, ak, ck, rfl, hx, ok, evb, evk, hbl, hkl, c0, c1, c2, c3, c4⟩ := (HA.out wr h10.right.right.right).get hlt
      have hdrop : cs.drop j = x :: cs.drop (j + 1) := by
        obtain ⟨hl, rfl⟩ := List.getElem?_eq_some_iff.1 hx
        exact List.drop_eq_getElem_cons hl
      have hpl := HPL.out
      rw [hdrop] at hpl
      unfold playsOk at hpl
      simp only [Bool.and_eq_true] at hpl
      obtain ⟨hokx, hnext⟩ := hpl
      have HNEXT := Lib.hid hnext
      have hoks : okS s = true := by unfold okX at hokx; simp only [Bool.and_eq_true] at hokx; exact hokx.1
      have HOKX := Lib.hid hokx
      have HOKS := Lib.hid hoks
      have HX := Lib.hid hx
      have OK := Lib.hid ok
      have HVB := Lib.hid evb
      have HVK := Lib.hid evk
      have HLT := Lib.hid hlt
      have y1 : (j : Int) < n := by omega
      clear hdrop hnext hokx hoks hx ok evb evk c0 c1 c2 c3 c4 HPL
      go_upto_region 9 with fail
      go_cut [36, 37, 38, 39, 40, 41, 42, 43, 44, 45, 46, 47, 48, 49, 50, 51, 52, 53, 54, 55, 56, 57, 58, 59, 60, 61] (fun _ _ _ _ _ _ _ _ _ _ _ _ _ _ _ _ _ _ _ _ _ _ _ _ _ t61 wx => t61 = .bool false ∧ Sat u wx (logsO s.o l k p q * (isD p s.d * (isM q s.d * F))))
      case first J K' hJ hmet =>
        have hoks := HOKS.out
        unfold okS at hoks
        simp only [Bool.and_eq_true] at hoks
        obtain ⟨⟨hgood, _⟩, hoe⟩ := hoks
        obtain ⟨d, oo, e⟩ := s
        dsimp only at hgood hoe h10 hJ hmet ⊢
        have HGOOD := Lib.hid hgood
        clear hgood HOKS HOKX HNEXT
        rcases oo with _ | W
        · have hne : (e != 0) = true := hoe
          have hne2 : (e == 0) = false := by rw [bne, Bool.not_eq_true'] at hne; exact hne
          have h11 := (Sat.fact_iff.1 h10).2
          simp only [ptrO_none] at hJ ⊢
          clear hoe h10
          go_wp2_with fail
          refine (lies_any u wr F p q d HGOOD.out h11).mono ?_
          rintro e' w12 ⟨rfl, h12⟩
          dsimp only
          have h13 : Sat u w12 (logsO none l k p q * (isD p d * (isM q d * F))) := Sat.fact_iff.2 ⟨trivial, h12⟩
          clear h11 h12
          go_wp2_with fail
          go_meet
          exact ⟨rfl, h13⟩
        · simp only [Bool.and_eq_true] at hoe
          obtain ⟨⟨⟨he0, _⟩, _⟩, _⟩ := hoe
          have he : e = 0 := by rw [beq_iff_eq] at he0; exact he0
          subst he
          have h11 : Sat u wr (isD p d * (isM q d * (isL l p W * (isN k q W * F)))) := h10.eq (by show isL l p W * isN k q W * (isD p d * (isM q d * F)) = _; ac_rfl)
          simp only [ptrO_some] at hJ ⊢
          clear he0 h10
          go_wp2_with fail
          refine (lies_any u wr _ p q d HGOOD.out h11).mono ?_
          rintro e' w12 ⟨rfl, h12⟩
          dsimp only
          clear h11
          go_wp2_with fail
          refine (tells_any u w12 _ l p k q W (h12.eq (show _ = isL l p W * (isN k q W * (isD p d * (isM q d * F))) by ac_rfl))).mono ?_
          rintro e' w13 ⟨rfl, h13⟩
          dsimp only
          have h14 : Sat u w13 (logsO (some W) l k p q * (isD p d * (isM q d * F))) := h13.sa
          clear h12 h13
          go_wp2_with fail
          go_meet
          exact ⟨rfl, h14⟩
      case rest =>
        obtain ⟨rfl, h11⟩ := hcut
        clear h10
        obtain ⟨c0, c1, c2, c3, c4⟩ := (HA.out wc h11.right.right.right).cells HX.out
        rw [HVB.out] at c2
        rw [HVK.out] at c4
        have hnm : x.name = str x.name.data.toList := (str_of _).symm
        have hnl : x.name.data.toList.length ≤ 10000 := by
          have h := tot_snoc cs j x HX.out
          have h2 := tot_le cs (j + 1)
          unfold callBulk at h
          have h3 : x.name.data.toList.length = x.name.size := by rw [← str_size, ← hnm]
          omega
        have hxl : x.b.length ≤ 10000 ∧ x.keep.length ≤ 10000 := by
          have h := tot_snoc cs j x HX.out
          have h2 := tot_le cs (j + 1)
          unfold callBulk at h
          omega
        obtain ⟨hbl9, hkl9⟩ := hxl
        obtain ⟨nm, hnme⟩ : ∃ nm, x.name.data.toList = nm := ⟨_, rfl⟩
        rw [hnme] at hnm hnl
        rw [hnm] at c1
        have HNM := Lib.hid hnme
        have h12 := h11.alloc (.cells #[.int .u8 (x.kind : Nat), .string (str nm), .slice ab x.b.length cb, .int .i64 x.n, .slice ak x.keep.length ck] 36)
        clear hnm hnme
        go_upto_block 2 with fail
        generalize wc.heap.size = bx at h12 ⊢
        generalize wc.alloc (.cells #[.int .u8 (x.kind : Nat), .string (str nm), .slice ab x.b.length cb, .int .i64 x.n, .slice ak x.keep.length ck] 36) = w12 at h12 ⊢
        clear h11 c0 c1 c2 c3 c4
        have hk12 : (x.kind : Int) % 12 = ((x.kind % 12 : Nat) : Int) := by omega
        rw [hk12]
        clear hk12
        have hk12 : x.kind % 12 < 12 := Nat.mod_lt _ (by decide)
        obtain ⟨k12, hke⟩ : ∃ k, x.kind % 12 = k := ⟨_, rfl⟩
        have HKE := Lib.hid hke
        rw [hke] at hk12 ⊢
        clear hke
        go_cut [104] (fun _ wx => (k12 = 8 ∨ k12 = 11 ∨ k12 = 9) ∧ Sat u wx (own bx (.cells #[.int .u8 (x.kind : Nat), .string (str nm), .slice ab x.b.length cb, .int .i64 x.n, .slice ak x.keep.length ck] 36 (0, 0)) * (logsO s.o l k p q * (isD p (backD x s.d) * (isM q (backD x s.d) * F)))))
        case first J K' hJ hmet =>
          have HJ := Lib.hid hJ
          clear hJ
          obtain ⟨ok0, ok1⟩ : -9223372036854775808 ≤ x.n ∧ x.n ≤ 9223372036854775807 := ⟨OK.out.n0, OK.out.n1⟩
          by_cases q7 : k12 = 7
          · have hst : stepS x s = { s with d := failD s.d (x.n.tmod 9) } := by unfold stepS; rw [HKE.out, if_pos q7]
            have HST := Lib.hid hst
            subst q7
            clear hst
            have c3 := h12.cell 3
            have ht1 : -9 < x.n.tmod 9 ∧ x.n.tmod 9 < 9 := by have := rem_twice x.n 9 (by decide); exact ⟨this.1, this.2.1⟩
            have e3 : IntKind.i64.wrap (x.n.tmod 9) = x.n.tmod 9 := IntWalk.i64_in _ (by omega)
            have hn2 := HNEXT.out
            rw [HST.out] at hn2
            have HN2 := Lib.hid hn2
            clear hn2
            go_wp2_with fail
            refine (dfail_any u w12 (own bx (.cells #[.int .u8 (x.kind : Nat), .string (str nm), .slice ab x.b.length cb, .int .i64 x.n, .slice ak x.keep.length ck] 36 (0, 0)) * (logsO s.o l k p q * (isM q s.d * F))) p s.d (x.n.tmod 9) (by omega) (by omega) (h12.eq (by ac_rfl))).mono ?_
            rintro e w13 ⟨rfl, h13⟩
            dsimp only
            have c3 := h13.right.cell 3
            clear h12
            go_wp2_with fail
            refine (rfail_any u w13 (own bx (.cells #[.int .u8 (x.kind : Nat), .string (str nm), .slice ab x.b.length cb, .int .i64 x.n, .slice ak x.keep.length ck] 36 (0, 0)) * (logsO s.o l k p q * (isD p (failD s.d (x.n.tmod 9)) * F))) q s.d (x.n.tmod 9) (by omega) (by omega) (h13.eq (by ac_rfl))).mono ?_
            rintro e w14 ⟨rfl, h14⟩
            dsimp only
            have h15 : Sat u w14 (logsO s.o l k p q * (isD p (failD s.d (x.n.tmod 9)) * (isM q (failD s.d (x.n.tmod 9)) * F))) := (h14.eq (show _ = own bx (.cells #[.int .u8 (x.kind : Nat), .string (str nm), .slice ab x.b.length cb, .int .i64 x.n, .slice ak x.keep.length ck] 36 (0, 0)) * (logsO s.o l k p q * (isD p (failD s.d (x.n.tmod 9)) * (isM q (failD s.d (x.n.tmod 9)) * F))) by ac_rfl)).right
            clear c3 h13 h14 e3
            go_wp2_with fail
            go_roundw
            case rel => exact ⟨j + 1, { s with d := failD s.d (x.n.tmod 9) }, l, k, HLT.out, by go_num, rfl, rfl, rfl, rfl, HN2.out, h15⟩
            case measure => have hl := HLT.out; simp [intOf]; omega
          have n7 : ((k12 : Int) == 7) = false := by rw [beq_eq_false_iff_ne]; omega
          by_cases q10 : k12 = 10
          · have hst : stepS x s = { s with d := (appendD s.d nm x.b).2 } := by unfold stepS; rw [HKE.out, if_neg (by omega), if_pos q10, HNM.out]
            have hn2 := HNEXT.out
            rw [hst] at hn2
            have HN2 := Lib.hid hn2
            have hfl : s.d.files.length < 1000 := by
              have h := HOKS.out
              unfold okS at h
              simp only [Bool.and_eq_true, decide_eq_true_eq] at h
              exact h.1.2
            subst q10
            have c1 := h12.cell 1
            have c2 := h12.cell 2
            clear hst hn2
            have hkb : ∀ w', Sat u w' F → BytesAt w' (.slice ab x.b.length cb) x.b := fun w' h' => by
              have := (HA.out w' h').bs x (List.mem_of_getElem? HX.out)
              rwa [HVB.out] at this
            have HKB := Lib.hid hkb
            clear hkb n7
            go_wp2_with fail
            refine (dappend_any u w12 (own bx (.cells #[.int .u8 (x.kind : Nat), .string (str nm), .slice ab x.b.length cb, .int .i64 x.n, .slice ak x.keep.length ck] 36 (0, 0)) * (logsO s.o l k p q * (isM q s.d * F))) p s.d nm x.b ab cb (by omega) (by omega) (fun w' h' => HKB.out w' h'.right.right.right) (by omega) (h12.eq (by ac_rfl))).mono ?_
            rintro e w13 ⟨rfl, h13⟩
            dsimp only
            have c1 := h13.right.cell 1
            have c2 := h13.right.cell 2
            clear h12
            go_wp2_with fail
            refine (rappend_any u w13 (own bx (.cells #[.int .u8 (x.kind : Nat), .string (str nm), .slice ab x.b.length cb, .int .i64 x.n, .slice ak x.keep.length ck] 36 (0, 0)) * (logsO s.o l k p q * (isD p (appendD s.d nm x.b).2 * F))) q s.d nm x.b ab cb (by omega) (by omega) (fun w' h' => HKB.out w' h'.right.right.right) (by omega) (h13.eq (by ac_rfl))).mono ?_
            rintro e w14 ⟨rfl, h14⟩
            dsimp only
            have h15 : Sat u w14 (logsO s.o l k p q * (isD p (appendD s.d nm x.b).2 * (isM q (appendD s.d nm x.b).2 * F))) := (h14.eq (show _ = own bx (.cells #[.int .u8 (x.kind : Nat), .string (str nm), .slice ab x.b.length cb, .int .i64 x.n, .slice ak x.keep.length ck] 36 (0, 0)) * (logsO s.o l k p q * (isD p (appendD s.d nm x.b).2 * (isM q (appendD s.d nm x.b).2 * F))) by ac_rfl)).right
            clear c1 c2 h13 h14
            go_wp2_with fail
            go_roundw
            case rel => exact ⟨j + 1, { s with d := (appendD s.d nm x.b).2 }, l, k, HLT.out, by go_num, rfl, rfl, rfl, rfl, HN2.out, h15⟩
            case measure => have hl := HLT.out; simp [intOf]; omega
          have n10 : ((k12 : Int) == 10) = false := by rw [beq_eq_false_iff_ne]; omega
          have hkp : ∀ w', Sat u w' F → IntsAt w' (.slice ak x.keep.length ck) x.keep := fun w' h' => by
            have := (HA.out w' h').ks x (List.mem_of_getElem? HX.out)
            rwa [HVK.out] at this
          have HKP := Lib.hid hkp
          clear hkp
          by_cases q8 : k12 = 8
          · have hbk : backD x s.d = onD (crashD s.d) x.keep := by unfold backD; rw [HKE.out, if_neg (by omega), if_neg (by omega)]
            have HBK := Lib.hid hbk
            subst q8
            clear hbk n7 n10
            have c0 := h12.cell 0
            go_wp2_with fail
            refine (dcrash_any u w12 (own bx (.cells #[.int .u8 (x.kind : Nat), .string (str nm), .slice ab x.b.length cb, .int .i64 x.n, .slice ak x.keep.length ck] 36 (0, 0)) * (logsO s.o l k p q * (isM q s.d * F))) p s.d (h12.eq (by ac_rfl))).mono ?_
            rintro e w13 ⟨rfl, h13⟩
            dsimp only
            clear h12 c0
            go_wp2_with fail
            refine (rcrash_any u w13 (own bx (.cells #[.int .u8 (x.kind : Nat), .string (str nm), .slice ab x.b.length cb, .int .i64 x.n, .slice ak x.keep.length ck] 36 (0, 0)) * (logsO s.o l k p q * (isD p (crashD s.d) * F))) q s.d (h13.eq (by ac_rfl))).mono ?_
            rintro e w14 ⟨rfl, h14⟩
            dsimp only
            have c4 := h14.right.cell 4
            clear h13
            go_wp2_with fail
            refine (don_any u w14 (own bx (.cells #[.int .u8 (x.kind : Nat), .string (str nm), .slice ab x.b.length cb, .int .i64 x.n, .slice ak x.keep.length ck] 36 (0, 0)) * (logsO s.o l k p q * (isM q (crashD s.d) * F))) p (crashD s.d) x.keep ak ck (fun w' h' => HKP.out w' h'.right.right.right) (by omega) OK.out.keep (h14.eq (by ac_rfl))).mono ?_
            rintro e w15 ⟨rfl, h15⟩
            dsimp only
            have c4 := h15.right.cell 4
            clear h14
            go_wp2_with fail
            refine (ron_any u w15 (own bx (.cells #[.int .u8 (x.kind : Nat), .string (str nm), .slice ab x.b.length cb, .int .i64 x.n, .slice ak x.keep.length ck] 36 (0, 0)) * (logsO s.o l k p q * (isD p (onD (crashD s.d) x.keep) * F))) q (crashD s.d) x.keep ak ck (fun w' h' => HKP.out w' h'.right.right.right) (by omega) OK.out.keep (h15.eq (by ac_rfl))).mono ?_
            rintro e w16 ⟨rfl, h16⟩
            dsimp only
            have h17 : Sat u w16 (own bx (.cells #[.int .u8 (x.kind : Nat), .string (str nm), .slice ab x.b.length cb, .int .i64 x.n, .slice ak x.keep.length ck] 36 (0, 0)) * (logsO s.o l k p q * (isD p (onD (crashD s.d) x.keep) * (isM q (onD (crashD s.d) x.keep) * F)))) := h16.eq (by ac_rfl)
            have c0 := h17.cell 0
            have c3 := h17.cell 3
            have hkm : (x.kind : Int) % 12 = 8 := by have := HKE.out; omega
            clear c4 h15 h16
            go_wp2_with fail
            have hJ := HJ.out
            go_meet
            rw [HBK.out]
            exact ⟨.inl trivial, h17⟩
          have n8 : ((k12 : Int) == 8) = false := by rw [beq_eq_false_iff_ne]; omega
          by_cases q11 : k12 = 11
          · have hbk : backD x s.d = failD (onD (crashD s.d) x.keep) (x.n.tmod 5) := by unfold backD; rw [HKE.out, if_neg (by omega), if_pos q11]
            have HBK := Lib.hid hbk
            subst q11
            clear hbk n7 n10 n8
            have ht1 : -5 < x.n.tmod 5 ∧ x.n.tmod 5 < 5 := by have := rem_twice x.n 5 (by decide); exact ⟨this.1, this.2.1⟩
            obtain ⟨ht1, ht2⟩ := ht1
            have e3 : IntKind.i64.wrap (x.n.tmod 5) = x.n.tmod 5 := IntWalk.i64_in _ (by omega)
            have c0 := h12.cell 0
            go_wp2_with fail
            refine (dcrash_any u w12 (own bx (.cells #[.int .u8 (x.kind : Nat), .string (str nm), .slice ab x.b.length cb, .int .i64 x.n, .slice ak x.keep.length ck] 36 (0, 0)) * (logsO s.o l k p q * (isM q s.d * F))) p s.d (h12.eq (by ac_rfl))).mono ?_
            rintro e w13 ⟨rfl, h13⟩
            dsimp only
            clear h12 c0
            go_wp2_with fail
            refine (rcrash_any u w13 (own bx (.cells #[.int .u8 (x.kind : Nat), .string (str nm), .slice ab x.b.length cb, .int .i64 x.n, .slice ak x.keep.length ck] 36 (0, 0)) * (logsO s.o l k p q * (isD p (crashD s.d) * F))) q s.d (h13.eq (by ac_rfl))).mono ?_
            rintro e w14 ⟨rfl, h14⟩
            dsimp only
            have c4 := h14.right.cell 4
            clear h13
            go_wp2_with fail
            refine (don_any u w14 (own bx (.cells #[.int .u8 (x.kind : Nat), .string (str nm), .slice ab x.b.length cb, .int .i64 x.n, .slice ak x.keep.length ck] 36 (0, 0)) * (logsO s.o l k p q * (isM q (crashD s.d) * F))) p (crashD s.d) x.keep ak ck (fun w' h' => HKP.out w' h'.right.right.right) (by omega) OK.out.keep (h14.eq (by ac_rfl))).mono ?_
            rintro e w15 ⟨rfl, h15⟩
            dsimp only
            have c4 := h15.right.cell 4
            clear h14
            go_wp2_with fail
            refine (ron_any u w15 (own bx (.cells #[.int .u8 (x.kind : Nat), .string (str nm), .slice ab x.b.length cb, .int .i64 x.n, .slice ak x.keep.length ck] 36 (0, 0)) * (logsO s.o l k p q * (isD p (onD (crashD s.d) x.keep) * F))) q (crashD s.d) x.keep ak ck (fun w' h' => HKP.out w' h'.right.right.right) (by omega) OK.out.keep (h15.eq (by ac_rfl))).mono ?_
            rintro e w16 ⟨rfl, h16⟩
            dsimp only
            have h17 : Sat u w16 (own bx (.cells #[.int .u8 (x.kind : Nat), .string (str nm), .slice ab x.b.length cb, .int .i64 x.n, .slice ak x.keep.length ck] 36 (0, 0)) * (logsO s.o l k p q * (isD p (onD (crashD s.d) x.keep) * (isM q (onD (crashD s.d) x.keep) * F)))) := h16.eq (by ac_rfl)
            have c0 := h17.cell 0
            have c3 := h17.cell 3
            have hkm : (x.kind : Int) % 12 = 11 := by have := HKE.out; omega
            clear c4 h15 h16
            go_wp2_with fail
            refine (dfail_any u w16 (own bx (.cells #[.int .u8 (x.kind : Nat), .string (str nm), .slice ab x.b.length cb, .int .i64 x.n, .slice ak x.keep.length ck] 36 (0, 0)) * (logsO s.o l k p q * (isM q (onD (crashD s.d) x.keep) * F))) p (onD (crashD s.d) x.keep) (x.n.tmod 5) (by omega) (by omega) (h17.eq (by ac_rfl))).mono ?_
            rintro e w18 ⟨rfl, h18⟩
            dsimp only
            have c3 := h18.right.cell 3
            clear h17 c0
            go_wp2_with fail
            refine (rfail_any u w18 (own bx (.cells #[.int .u8 (x.kind : Nat), .string (str nm), .slice ab x.b.length cb, .int .i64 x.n, .slice ak x.keep.length ck] 36 (0, 0)) * (logsO s.o l k p q * (isD p (failD (onD (crashD s.d) x.keep) (x.n.tmod 5)) * F))) q (onD (crashD s.d) x.keep) (x.n.tmod 5) (by omega) (by omega) (h18.eq (by ac_rfl))).mono ?_
            rintro e w19 ⟨rfl, h19⟩
            dsimp only
            have h20 : Sat u w19 (own bx (.cells #[.int .u8 (x.kind : Nat), .string (str nm), .slice ab x.b.length cb, .int .i64 x.n, .slice ak x.keep.length ck] 36 (0, 0)) * (logsO s.o l k p q * (isD p (failD (onD (crashD s.d) x.keep) (x.n.tmod 5)) * (isM q (failD (onD (crashD s.d) x.keep) (x.n.tmod 5)) * F)))) := h19.eq (by ac_rfl)
            clear h18 h19 c3 e3
            go_wp2_with fail
            have hJ := HJ.out
            go_meet
            rw [HBK.out]
            exact ⟨.inr (.inl trivial), h20⟩
          have n11 : ((k12 : Int) == 11) = false := by rw [beq_eq_false_iff_ne]; omega
          by_cases q9 : k12 = 9
          · have hbk : backD x s.d = s.d := by unfold backD; rw [HKE.out, if_pos q9]
            have HBK := Lib.hid hbk
            subst q9
            clear hbk n7 n10 n8 n11
            go_wp2_with fail
            have hJ := HJ.out
            go_meet
            rw [HBK.out]
            exact ⟨.inr (.inr trivial), h12⟩
          have n9 : ((k12 : Int) == 9) = false := by rw [beq_eq_false_iff_ne]; omega
          have hst : stepS x s = match s.o with | some W => ⟨(doesW x.kind s.d W x.b).2.2, some (doesW x.kind s.d W x.b).2.1, s.e⟩ | none => s := by
            unfold stepS
            rw [HKE.out, if_neg q7, if_neg q10, if_neg (by omega)]
          have hn2 := HNEXT.out
          rw [hst] at hn2
          have hoks := HOKS.out
          unfold okS at hoks
          simp only [Bool.and_eq_true, decide_eq_true_eq] at hoks
          obtain ⟨⟨_, hfl⟩, hoe⟩ := hoks
          go_upto_region 13 with fail
          clear hst HOKX HOKS HNEXT HJ
          obtain ⟨d, oo, e⟩ := s
          dsimp only at hn2 hfl hoe h12 ⊢
          have HN2 := Lib.hid hn2
          clear hn2
          rcases oo with _ | W
          · have hne : (e != 0) = true := hoe
            have hne2 : (e == 0) = false := by rw [bne, Bool.not_eq_true'] at hne; exact hne
            have h13 : Sat u w12 (logsO none l k p q * (isD p d * (isM q d * F))) := h12.right
            clear hoe h12
            simp only [ptrO_none]
            go_wp2_with fail
            go_roundw
            case rel => exact ⟨j + 1, ⟨d, none, e⟩, l, k, HLT.out, by go_num, rfl, rfl, rfl, rfl, HN2.out, h13⟩
            case measure => have hl := HLT.out; simp [intOf]; omega
          · simp only [Bool.and_eq_true, decide_eq_true_eq] at hoe
            obtain ⟨⟨⟨he0, hrc⟩, hsz⟩, hgn⟩ := hoe
            have he : e = 0 := by rw [beq_iff_eq] at he0; exact he0
            subst he
            have hxn : x.name = str nm := by rw [← HNM.out]; exact (str_of _).symm
            have h13 : Sat u w12 (isL l p W * (isN k q W * (isD p d * (isM q d * (own bx (.cells #[.int .u8 (x.kind : Nat), .string (str nm), .slice ab x.b.length cb, .int .i64 x.n, .slice ak x.keep.length ck] 36 (0, 0)) * F))))) := h12.eq (by show own bx (.cells #[.int .u8 (x.kind : Nat), .string (str nm), .slice ab x.b.length cb, .int .i64 x.n, .slice ak x.keep.length ck] 36 (0, 0)) * (isL l p W * isN k q W * (isD p d * (isM q d * F))) = _; ac_rfl)
            have hdo := does_any u w12 (own bx (.cells #[.int .u8 (x.kind : Nat), .string (str nm), .slice ab x.b.length cb, .int .i64 x.n, .slice ak x.keep.length ck] 36 (0, 0)) * F) l p k q W d x OK.out.kind hbl9 (fun w' h' => (HA.out w' h'.right).bs x (List.mem_of_getElem? HX.out)) (by omega) (by omega) (by omega) (by omega) h13
            rw [hxn, HVB.out, HVK.out] at hdo
            have HDO := Lib.hid hdo
            have c0 := h12.cell 0
            have c1 := h12.cell 1
            have c2 := h12.cell 2
            have c3 := h12.cell 3
            have c4 := h12.cell 4
            clear he0 hxn hdo h12 h13
            simp only [ptrO_some]
            go_wp2_with fail
            refine HDO.out.mono ?_
            rintro e14 w14 ⟨rfl, h14⟩
            dsimp only
            have h15 : Sat u w14 (logsO (some (doesW x.kind d W x.b).2.1) l k p q * (isD p (doesW x.kind d W x.b).2.2 * (isM q (doesW x.kind d W x.b).2.2 * F))) := (h14.eq (show _ = own bx (.cells #[.int .u8 (x.kind : Nat), .string (str nm), .slice ab x.b.length cb, .int .i64 x.n, .slice ak x.keep.length ck] 36 (0, 0)) * (isL l p (doesW x.kind d W x.b).2.1 * isN k q (doesW x.kind d W x.b).2.1 * (isD p (doesW x.kind d W x.b).2.2 * (isM q (doesW x.kind d W x.b).2.2 * F))) by ac_rfl)).right
            clear c0 c1 c2 c3 c4 h14
            go_wp2_with fail
            go_roundw
            case rel => exact ⟨j + 1, ⟨(doesW x.kind d W x.b).2.2, some (doesW x.kind d W x.b).2.1, 0⟩, l, k, HLT.out, by go_num, rfl, rfl, rfl, rfl, HN2.out, h15⟩
            case measure => have hl := HLT.out; simp [intOf]; omega
        case rest =>
          obtain ⟨hkk, h13⟩ := hcut
          have hst : stepS x s = openS (backD x s.d) := by
            unfold stepS
            rw [HKE.out, if_neg (by omega), if_neg (by omega), if_pos hkk]
          have hok : okO (backD x s.d) = true := by
            have h := HOKX.out
            unfold okX at h
            rw [HKE.out, if_pos hkk] at h
            simp only [Bool.and_eq_true] at h
            exact h.2
          obtain ⟨hq9, hnl9, hg9⟩ := okO_facts hok
          have HST := Lib.hid hst
          have h14 : Sat u wc (isD p (backD x s.d) * (isM q (backD x s.d) * F)) := h13.right.right
          generalize backD x s.d = D at HST hq9 hnl9 hg9 h14
          clear hkk h13 hst hok h12
          go_wp2_with fail
          refine (lopen_any u wc _ p D hnl9 hg9 h14).mono ?_
          intro e15 w15 h15
          obtain ⟨l2, rfl, h16⟩ := opened_o h15
          dsimp only
          clear h14 h15
          go_wp2_with fail
          refine (nopen_any u w15 _ q D hq9 hnl9 hg9 (h16.eq (show _ = isM q D * (logO (openW D).2.1 l2 p * (isD p (openW D).2.2 * F)) by ac_rfl))).mono ?_
          intro e17 w17 h17
          obtain ⟨k2, rfl, h18⟩ := openedN_o h17
          dsimp only
          have h19 : Sat u w17 (logsO (openS D).o l2 k2 p q * (isD p (openS D).d * (isM q (openS D).d * F))) := logs_o (h18.eq (by show lognO (openW D).2.1 k2 q * (isM q (openW D).2.2 * (logO (openW D).2.1 l2 p * (isD p (openW D).2.2 * F))) = lognO (openW D).2.1 k2 q * (logO (openW D).2.1 l2 p * (isD p (openW D).2.2 * (isM q (openW D).2.2 * F))); ac_rfl))
          obtain ⟨s2, hs2⟩ : ∃ s, openS D = s := ⟨_, rfl⟩
          have e1 : (openW D).2.1 = s2.o := by rw [← hs2]; rfl
          have e2 : (openW D).1 = s2.e := by rw [← hs2]; rfl
          have hn2 := HNEXT.out
          rw [HST.out, hs2] at hn2
          rw [hs2] at h19
          rw [e1, e2]
          have HN2 := Lib.hid hn2
          clear e1 e2 hs2 hn2 h16 h17 h18 hq9 hnl9 hg9
          go_wp2_with fail
          go_roundw
          case rel => exact ⟨j + 1, s2, l2, k2, HLT.out, by go_num, rfl, rfl, rfl, rfl, HN2.out, h19⟩
          case measure => have hl := HLT.out; simp [intOf]; omega
    · have e : j = n := by omega
      subst e
      have hdr : cs.drop j = [] := List.drop_of_length_le (by rw [← HN.out]; exact Nat.le_refl _)
      have hoks := HPL.out
      rw [hdr] at hoks
      unfold playsOk okS at hoks
      simp only [Bool.and_eq_true] at hoks
      obtain ⟨⟨hgood, _⟩, hoe⟩ := hoks
      obtain ⟨d, oo, e⟩ := s
      dsimp only at hgood hoe h10 ⊢
      have HGOOD := Lib.hid hgood
      clear hgood hdr HPL
      rcases oo with _ | W
      · have hne : (e != 0) = true := hoe
        have hne2 : (e == 0) = false := by rw [bne, Bool.not_eq_true'] at hne; exact hne
        have h11 := (Sat.fact_iff.1 h10).2
        simp only [ptrO_none]
        clear hoe h10
        go_wp2_with fail
        refine (lies_any u wr F p q d HGOOD.out h11).mono ?_
        rintro e' w12 ⟨rfl, h12⟩
        dsimp only
        clear h11
        go_wp2_with fail
        refine (wworks_any u w12 F h12.right.right).mono ?_
        rintro e' w13 ⟨rfl, h13⟩
        dsimp only
        have H := Lib.hid h13
        clear h12 h13
        go_wp2_with fail
        go_ret
        exact ⟨rfl, H.out⟩
      · simp only [Bool.and_eq_true] at hoe
        obtain ⟨⟨⟨he0, _⟩, _⟩, _⟩ := hoe
        have he : e = 0 := by rw [beq_iff_eq] at he0; exact he0
        subst he
        have h11 : Sat u wr (isD p d * (isM q d * (isL l p W * (isN k q W * F)))) := h10.eq (by show isL l p W * isN k q W * (isD p d * (isM q d * F)) = _; ac_rfl)
        simp only [ptrO_some]
        clear he0 h10
        go_wp2_with fail
        refine (lies_any u wr _ p q d HGOOD.out h11).mono ?_
        rintro e' w12 ⟨rfl, h12⟩
        dsimp only
        clear h11
        go_wp2_with fail
        refine (tells_any u w12 _ l p k q W (h12.eq (show _ = isL l p W * (isN k q W * (isD p d * (isM q d * F))) by ac_rfl))).mono ?_
        rintro e' w13 ⟨rfl, h13⟩
        dsimp only
        clear h12
        go_wp2_with fail
        refine (wworks_any u w13 F h13.right.right.right.right).mono ?_
        rintro e' w14 ⟨rfl, h14⟩
        dsimp only
        have H := Lib.hid h14
        clear h13 h14
        go_wp2_with fail
        go_ret
        exact ⟨rfl, H.out⟩
end
end Go.Proofs.YtlfmkiclaijokaaGreatDoor

namespace Go.Proofs.YtlfmkiclaijokaaGreatDoor
open Go.RowKit
set_option linter.unusedVariables false

section
variable {u w : World} {F : HProp}

theorem lbroken_nil : Calls Tryz.prog 22 #[.pointer none] w fun e w' => e = .returned (.int .i64 1) ∧ w = w' := by
  go_enter Tryz.func22, Tryz.ntmps22
  go_wp2_with fail
  go_ret
  exact ⟨rfl, rfl⟩

theorem lgeneration_nil : Calls Tryz.prog 17 #[.pointer none] w fun e w' => e = .returned (.int .i64 0) ∧ w = w' := by
  go_enter Tryz.func17, Tryz.ntmps17
  go_wp2_with fail
  go_ret
  exact ⟨rfl, rfl⟩

theorem lsure_nil : Calls Tryz.prog 18 #[.pointer none] w fun e w' => e = .returned (.int .i64 0) ∧ w = w' := by
  go_enter Tryz.func18, Tryz.ntmps18
  go_wp2_with fail
  go_ret
  exact ⟨rfl, rfl⟩

theorem lcount_nil : Calls Tryz.prog 16 #[.pointer none] w fun e w' => e = .returned (.int .i64 0) ∧ w = w' := by
  go_enter Tryz.func16, Tryz.ntmps16
  go_wp2_with fail
  go_ret
  exact ⟨rfl, rfl⟩

theorem lsize_nil : Calls Tryz.prog 21 #[.pointer none] w fun e w' => e = .returned (.int .i64 0) ∧ w = w' := by
  go_enter Tryz.func21, Tryz.ntmps21
  go_wp2_with fail
  go_ret
  exact ⟨rfl, rfl⟩

theorem lstate_nil : Calls Tryz.prog 15 #[.pointer none] w fun e w' => e = .returned (.slice none 0 0) ∧ w = w' := by
  go_enter Tryz.func15, Tryz.ntmps15
  go_wp2_with fail
  go_ret
  exact ⟨rfl, rfl⟩

theorem lrecord_nil : Calls Tryz.prog 19 #[.pointer none, .int .i64 0] w fun e w' => e = .returned (.tuple #[.slice none 0 0, .bool false]) ∧ w = w' := by
  go_enter Tryz.func19, Tryz.ntmps19
  go_wp2_with fail
  go_ret2
  exact ⟨rfl, rfl⟩

theorem lopen_nil : Calls Tryz.prog 8 #[.pointer none] w fun e w' => e = .returned (.tuple #[.pointer none, .int .i64 1]) ∧ w = w' := by
  go_enter Tryz.func8, Tryz.ntmps8
  go_wp2_with fail
  go_ret2
  exact ⟨rfl, rfl⟩

theorem lappend_nil : Calls Tryz.prog 12 #[.pointer none, .slice none 0 0] w fun e w' => e = .returned (.int .i64 1) ∧ w = w' := by
  go_enter Tryz.func12, Tryz.ntmps12
  go_wp2_with fail
  refine lbroken_nil.mono ?_
  rintro e w2 ⟨rfl, rfl⟩
  dsimp only
  go_wp2_with fail
  go_ret
  exact ⟨rfl, rfl⟩

theorem lcommit_nil : Calls Tryz.prog 10 #[.pointer none] w fun e w' => e = .returned (.int .i64 1) ∧ w = w' := by
  go_enter Tryz.func10, Tryz.ntmps10
  go_wp2_with fail
  refine lbroken_nil.mono ?_
  rintro e w2 ⟨rfl, rfl⟩
  dsimp only
  go_wp2_with fail
  go_ret
  exact ⟨rfl, rfl⟩

theorem lcheck_nil (hs : Sat u w F) : Calls Tryz.prog 11 #[.pointer none, .slice none 0 0] w fun e w' => e = .returned (.int .i64 1) ∧ Sat u w' F := by
  have h1 := (hs.alloc (.cells #[.pointer none] 28)).alloc (.cells #[.slice none 0 0] 34)
  rw [World.size_alloc] at h1
  generalize hq : w.heap.size = q at h1
  have h2 : Sat u _ (own q (.cells #[.pointer none] 28 (0, 0)) * (own (q + 1) (.cells #[.slice none 0 0] 34 (0, 0)) * F)) := h1.s2
  have c0 := h2.cell 0
  go_enter Tryz.func11, Tryz.ntmps11
  go_wp2_with fail
  refine lbroken_nil.mono ?_
  rintro e w2 ⟨rfl, rfl⟩
  dsimp only
  go_wp2_with fail
  go_ret
  exact ⟨rfl, h2.right.right⟩
end
end Go.Proofs.YtlfmkiclaijokaaGreatDoor

namespace Go.Proofs.YtlfmkiclaijokaaGreatDoor
set_option linter.unusedVariables false

def log0N : Bs := [108, 111, 103, 46, 48]
def k0D : DiskP := ⟨[], 8388608, 0, -1, false⟩
def k1D (f : Bs) : DiskP := ⟨[⟨log0N, [], f, false⟩], 8388608, 1, -1, false⟩
def k2D (f : Bs) : DiskP := ⟨[⟨log0N, f, [], true⟩], 8388608, 2, -1, false⟩
def k4D (k : Bs) : DiskP := ⟨[⟨ckN, k, [], true⟩], 8388608, 6, -1, false⟩
def k1W (r : Bs) : WalP := ⟨0, [], [r], 0, 1048593, 0⟩
def k2W (r : Bs) : WalP := ⟨0, [], [r], 1, 1048593, 0⟩
def k4W : WalP := ⟨1, [], [], 0, 0, 0⟩

theorem min12 : min (1 : Int) 2 = 1 := by decide
theorem name0 : nameW 0 = log0N := by kernel_rfl
theorem name1 : nameW 1 = [108, 111, 103, 46, 49] := by kernel_rfl

theorem k_open : openW (newD 8388608) = (0, some wE, k0D) := by kernel_rfl

theorem k_long (d : DiskP) (W : WalP) (b : Bs) (hW : W.broken = 0) (h : 1048576 < b.length) : appendW d W b = (3, W, d) := by
  unfold appendW
  rw [if_neg (by simp [hW]), if_pos h]

theorem k_append (b : Bs) (h : b.length = 1048576) : appendW k0D wE b = (0, k1W b, k1D (frameB 82 1 b)) := by
  have hf := frameB_length 82 1 b
  have e : appendD k0D log0N (frameB 82 1 b) = (0, k1D (frameB 82 1 b)) := by
    generalize frameB 82 1 b = f at hf
    simp [appendD, appE, barsD, badName, fileOf, getF, k0D, log0N, FileP.size, usedF, maxDisk, stepOk, stepD, appPut, putF, k1D, inc64, min12, hf, h]
  unfold appendW
  rw [if_neg (by decide), if_neg (by omega)]
  simp only [wE, List.length_nil, Nat.zero_add, name0, e, k1W, hf, h, ne_eq, not_true_eq_false, if_false, List.nil_append]

theorem k_two (d : DiskP) (b : Bs) (r : Bs) (hb : b.length ≤ 8000000) : checkW d (k1W r) b = (2, k1W r, d) := by
  unfold checkW
  rw [if_neg (by simp [k1W]), if_neg (by omega), if_pos (by simp [k1W])]

theorem k_commit (f r : Bs) : commitW (k1D f) (k1W r) = (0, k2W r, k2D f) := by
  have e : driesD (k1D f) log0N log0N wholeL = (0, k2D f) := by
    simp [driesD, barsD, badName, getF, k1D, log0N, wholeL, stepOk, stepD, putF, delF, k2D, inc64, min12, FileP.all]
  unfold commitW
  rw [if_neg (by simp [k1W]), if_neg (by simp [k1W])]
  simp only [show (k1W r).gen = 0 from rfl, name0, e, if_true]
  rfl

theorem k_three (d : DiskP) (W : WalP) (b : Bs) (hW : W.broken = 0) (h : 8000000 < b.length) : checkW d W b = (3, W, d) := by
  unfold checkW
  rw [if_neg (by simp [hW]), if_pos h]

theorem k_step0 (f : Bs) : step0 (k2D f) = (0, k2D f) := by
  simp [step0, readD, barsD, badName, getF, tmpN, k2D, log0N]

theorem k_full (f r b : Bs) (hf : f.length = 1048593) (hb : b.length = 8000000) : checkW (k2D f) (k2W r) b = (41, k2W r, k2D f) := by
  have hl := frameB_length 75 1 b
  have e : appendD (k2D f) tmpN (frameB 75 1 b) = (41, k2D f) := by
    generalize frameB 75 1 b = x at hl
    have h1 : ¬ (8388608 : Int) < x.length := by omega
    have h2 : (8388608 : Int) - f.length < x.length := by omega
    simp [appendD, appE, barsD, badName, fileOf, getF, k2D, log0N, tmpN, FileP.size, usedF, maxDisk, h1, h2]
  unfold checkW
  rw [if_neg (by simp [k2W]), if_neg (by omega), if_neg (by simp [k2W])]
  simp only [k_step0, show (k2W r).gen = 0 from rfl, Nat.zero_add, e, ne_eq, not_true_eq_false, if_false]
  rw [if_pos (by decide)]
  rfl

theorem k_nil (f r : Bs) (hf : f.length = 1048593) : checkW (k2D f) (k2W r) [] = (0, k4W, k4D (frameB 75 1 [])) := by
  have hl := frameB_length 75 1 []
  rw [List.length_nil] at hl
  have e : appendD (k2D f) tmpN (frameB 75 1 []) = (0, ⟨[⟨tmpN, [], frameB 75 1 [], false⟩, ⟨log0N, f, [], true⟩], 8388608, 3, -1, false⟩) := by
    generalize frameB 75 1 [] = x at hl
    have h1 : ¬ (8388608 : Int) < x.length := by omega
    have h2 : ¬ (8388608 : Int) - f.length < x.length := by omega
    simp [appendD, appE, barsD, badName, fileOf, getF, k2D, log0N, tmpN, FileP.size, usedF, maxDisk, h1, h2, stepOk, stepD, appPut, putF, inc64, min12, ltN]
  have e2 : driesD ⟨[⟨tmpN, [], frameB 75 1 [], false⟩, ⟨log0N, f, [], true⟩], 8388608, 3, -1, false⟩ tmpN tmpN wholeL = (0, ⟨[⟨tmpN, frameB 75 1 [], [], true⟩, ⟨log0N, f, [], true⟩], 8388608, 4, -1, false⟩) := by
    generalize frameB 75 1 [] = x
    simp [driesD, barsD, badName, getF, log0N, tmpN, wholeL, stepOk, stepD, putF, delF, inc64, min12, FileP.all, ltN]
  have e3 : driesD ⟨[⟨tmpN, frameB 75 1 [], [], true⟩, ⟨log0N, f, [], true⟩], 8388608, 4, -1, false⟩ tmpN ckN wholeL = (0, ⟨[⟨ckN, frameB 75 1 [], [], true⟩, ⟨log0N, f, [], true⟩], 8388608, 5, -1, false⟩) := by
    generalize frameB 75 1 [] = x
    simp [driesD, barsD, badName, getF, log0N, tmpN, ckN, wholeL, stepOk, stepD, putF, delF, inc64, min12, FileP.all, ltN]
  have e4 : (readD ⟨[⟨ckN, frameB 75 1 [], [], true⟩, ⟨log0N, f, [], true⟩], 8388608, 5, -1, false⟩ log0N).2 = 0 := by
    generalize frameB 75 1 [] = x
    simp [readD, barsD, badName, getF, ckN, log0N]
  have e5 : removeD ⟨[⟨ckN, frameB 75 1 [], [], true⟩, ⟨log0N, f, [], true⟩], 8388608, 5, -1, false⟩ log0N = (0, k4D (frameB 75 1 [])) := by
    generalize frameB 75 1 [] = x
    simp [removeD, barsD, badName, hasN, getF, ckN, log0N, stepOk, stepD, delF, inc64, min12, k4D]
  unfold checkW
  rw [if_neg (by simp [k2W]), if_neg (by decide), if_neg (by simp [k2W])]
  simp only [k_step0, show (k2W r).gen = 0 from rfl, Nat.zero_add, e, e2, e3, e4, e5, name0, ne_eq, not_true_eq_false, if_false, if_true]
  rfl

theorem k_last (b : Bs) (hb : b.length = 8000000) : ∃ d, checkW (k4D (frameB 75 1 [])) k4W b = (0, ⟨2, b, [], 0, 0, 0⟩, d) := by
  have hk := frameB_length 75 1 []
  rw [List.length_nil] at hk
  have hl := frameB_length 75 2 b
  have e0 : step0 (k4D (frameB 75 1 [])) = (0, k4D (frameB 75 1 [])) := by
    generalize frameB 75 1 [] = x
    simp [step0, readD, barsD, badName, getF, tmpN, ckN, k4D]
  have e : appendD (k4D (frameB 75 1 [])) tmpN (frameB 75 2 b) = (0, ⟨[⟨ckN, frameB 75 1 [], [], true⟩, ⟨tmpN, [], frameB 75 2 b, false⟩], 8388608, 7, -1, false⟩) := by
    generalize frameB 75 2 b = y at hl
    generalize frameB 75 1 [] = x at hk
    have h1 : ¬ (8388608 : Int) < y.length := by omega
    have h2 : ¬ (8388608 : Int) - x.length < y.length := by omega
    simp [appendD, appE, barsD, badName, fileOf, getF, k4D, ckN, tmpN, FileP.size, usedF, maxDisk, h1, h2, stepOk, stepD, appPut, putF, inc64, min12, ltN]
  have e2 : driesD ⟨[⟨ckN, frameB 75 1 [], [], true⟩, ⟨tmpN, [], frameB 75 2 b, false⟩], 8388608, 7, -1, false⟩ tmpN tmpN wholeL = (0, ⟨[⟨ckN, frameB 75 1 [], [], true⟩, ⟨tmpN, frameB 75 2 b, [], true⟩], 8388608, 8, -1, false⟩) := by
    generalize frameB 75 2 b = y
    generalize frameB 75 1 [] = x
    simp [driesD, barsD, badName, getF, ckN, tmpN, wholeL, stepOk, stepD, putF, delF, inc64, min12, FileP.all, ltN]
  have e3 : driesD ⟨[⟨ckN, frameB 75 1 [], [], true⟩, ⟨tmpN, frameB 75 2 b, [], true⟩], 8388608, 8, -1, false⟩ tmpN ckN wholeL = (0, ⟨[⟨ckN, frameB 75 2 b, [], true⟩], 8388608, 9, -1, false⟩) := by
    generalize frameB 75 2 b = y
    generalize frameB 75 1 [] = x
    simp [driesD, barsD, badName, getF, tmpN, ckN, wholeL, stepOk, stepD, putF, delF, inc64, min12, FileP.all, ltN]
  have e4 : (readD ⟨[⟨ckN, frameB 75 2 b, [], true⟩], 8388608, 9, -1, false⟩ [108, 111, 103, 46, 49]).2 = 5 := by
    generalize frameB 75 2 b = y
    simp [readD, barsD, badName, getF, ckN]
  refine ⟨⟨[⟨ckN, frameB 75 2 b, [], true⟩], 8388608, 9, -1, false⟩, ?_⟩
  unfold checkW
  rw [if_neg (by decide), if_neg (by omega), if_neg (by decide)]
  simp only [show k4W.gen = 1 from rfl, show 1 + 1 = 2 from rfl, e0, e, e2, e3, e4, name1, ne_eq, not_true_eq_false, if_false]
  rfl
end Go.Proofs.YtlfmkiclaijokaaGreatDoor
