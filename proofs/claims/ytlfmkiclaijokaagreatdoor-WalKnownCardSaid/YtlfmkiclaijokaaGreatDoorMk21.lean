/- wal: the records at the beginning of bytes, handed on one by one. wal: Open. The calls of a law, where they lie; large. -/
import Derived.Test.YtlfmkiclaijokaaGreatDoorMk19
import Derived.Test.YtlfmkiclaijokaaGreatDoorMk20
import Derived.Test.YtlfmkiclaijokaaGreatDoorMk15
namespace Go.Proofs.YtlfmkiclaijokaaGreatDoor
open Go.RowKit
set_option linter.unusedVariables false
attribute [local go_sem] Oper.semAt_some

theorem unframe_len {tag : UInt8} {most : Nat} {r s rest : Bs} {n : Nat} (h : unframeP tag most r = some (s, n, rest)) : r.length = 17 + s.length + rest.length := by
  unfold unframeP at h
  split at h
  · next hc =>
    simp only [Option.some.injEq, Prod.mk.injEq] at h
    obtain ⟨rfl, _, rfl⟩ := h
    obtain ⟨_, _, _, _, _, h6, _⟩ := hc
    simp only [List.length_take, List.length_drop]
    omega
  · cases h

/-- A record that is handed on: its bytes, where they lie, how many bytes are behind. -/
structure RecX where
  s : Bs
  a : Option Addr
  c : Nat
  beh : Nat

def encX (x : RecX) : Array Value := #[.slice x.a x.s.length x.c, .int .i64 x.beh]
def ownX (x : RecX) : HProp := ownB (.slice x.a x.s.length x.c) x.s
def behX (l : List RecX) : Nat := (l.getLast?.map RecX.beh).getD 0

theorem behX_snoc (l : List RecX) (x : RecX) : behX (l ++ [x]) = x.beh := by unfold behX; simp

def scanned (b : Bs) (l : List RecX) : Prop := scanP (b.length + 1) 1 b = (l.map RecX.s, behX l)

/-- What is still to be scanned. -/
def scanTo (b : Bs) (l : List RecX) (r : Bs) : Prop :=
  behX l + r.length = b.length ∧ 17 * l.length ≤ behX l ∧ scanP (b.length + 1) 1 b = (l.map RecX.s ++ (scanP (b.length + 1 - l.length) (l.length + 1) r).1, behX l + (scanP (b.length + 1 - l.length) (l.length + 1) r).2)

theorem scanTo_start (b : Bs) : scanTo b [] b := ⟨Nat.zero_add _, Nat.le_refl _, by
  show scanP _ _ _ = ([] ++ (scanP (b.length + 1) 1 b).1, 0 + (scanP (b.length + 1) 1 b).2)
  rw [List.nil_append, Nat.zero_add]⟩

/-- What holds of each record that is handed on. -/
def goodX (pre : List RecX) (x : RecX) : Prop := pre.length < 900000 ∧ x.beh ≤ 100000000 ∧ x.s.length ≤ 100000000

theorem scanP_stop {k i : Nat} {r : Bs} (h : unframeP 82 1048576 r = none ∨ ∃ s n rest, unframeP 82 1048576 r = some (s, n, rest) ∧ n ≠ i) : scanP k i r = ([], 0) := by
  cases k with
  | zero => rfl
  | succ k =>
    unfold scanP
    rcases h with h | ⟨s, n, rest, h, hn⟩
    · rw [h]
    · rw [h]
      exact if_neg hn

theorem scanTo_stop {b r : Bs} {l : List RecX} (h : scanTo b l r) (hs : unframeP 82 1048576 r = none ∨ ∃ s n rest, unframeP 82 1048576 r = some (s, n, rest) ∧ n ≠ l.length + 1) : scanned b l := by
  unfold scanned
  rw [h.2.2, scanP_stop hs]
  simp

theorem scanP_step {k i : Nat} {r s rest : Bs} (h : unframeP 82 1048576 r = some (s, i, rest)) : scanP (k + 1) i r = (s :: (scanP k (i + 1) rest).1, 17 + s.length + (scanP k (i + 1) rest).2) := by
  conv => lhs; unfold scanP
  rw [h]
  exact if_pos rfl

theorem scanTo_next {b r s rest : Bs} {l : List RecX} (h : scanTo b l r) (hs : unframeP 82 1048576 r = some (s, l.length + 1, rest)) (a : Option Addr) (c : Nat) : scanTo b (l ++ [⟨s, a, c, b.length - rest.length⟩]) rest := by
  have hl := unframe_len hs
  obtain ⟨h1, h2, h3⟩ := h
  have hb : behX (l ++ [(⟨s, a, c, b.length - rest.length⟩ : RecX)]) = b.length - rest.length := behX_snoc _ _
  have hk : b.length + 1 - l.length = (b.length + 1 - (l.length + 1)) + 1 := by omega
  refine ⟨by rw [hb]; omega, by rw [hb, List.length_append]; simp; omega, ?_⟩
  rw [h3, hk, scanP_step hs]
  dsimp only
  rw [hb, List.map_append, List.length_append, List.append_assoc]
  simp only [List.map_cons, List.map_nil, List.length_cons, List.length_nil, Nat.zero_add, List.cons_append, List.nil_append]
  refine Prod.ext rfl ?_
  dsimp only
  omega

set_option maxRecDepth 100000 in
set_option maxHeartbeats 4000000 in
theorem scan1_gen (u : World) (n l Bx : Nat) (b : Bs) (ab : Option Addr) (cb : Nat) (hbl : b.length ≤ 8388608) (L : HProp) (I : List RecX → HProp)
    (hI : ∀ pre W, Sat u W (L * I pre) → W.cell? ⟨Bx, 0, none⟩ = some (.slice ab b.length cb) ∧ BytesAt W (.slice ab b.length cb) b) (W : World) (h0 : Sat u W (L * I []))
    (hY : ∀ pre x W1, goodX pre x → Sat u W1 (ownX x * (L * I pre)) → YieldAt Fence.wide n Tryz.prog l (encX x) W1 fun e W' => e = .returned (.bool true) ∧ Sat u W' (L * I (pre ++ [x]))) :
    CallsIn Fence.wide (n + 1) Tryz.prog 75 #[.func (.yield l) #[] #[], .pointer (some ⟨Bx, 0, none⟩)] W fun e W' => (∃ v, e = .returned v) ∧ ∃ xs, scanned b xs ∧ Sat u W' (L * I xs) := by
  refine callsIn_of_wp Tryz.func75 rfl trivial ?_ rfl
  simp only [Tryz.ntmps75, List.size_toArray, List.length_cons, List.length_nil, Nat.reduceAdd, Nat.reduceSub, Array.replicate_succ, Array.replicate_zero, List.push_toArray, List.append_toArray, List.nil_append, List.cons_append]
  have c0 := (hI [] W h0).1
  gi_wp2
  clear c0
  gi_loopw [3, 4] (fun t3 t4 wr => ∃ (pre : List RecX) (r : Bs) (ar : Option Addr) (cr : Nat), t3 = .slice ar r.length cr ∧ t4 = .int .i64 ((pre.length + 1 : Nat) : Int) ∧ scanTo b pre r ∧ (∀ x, BytesAt x (.slice ab b.length cb) b → BytesAt x (.slice ar r.length cr) r) ∧ Sat u wr (L * I pre)) (fun t3 _ _ => match t3 with | .slice _ k _ => k | _ => 0)
  case atStart => exact ⟨[], b, ab, cb, rfl, rfl, scanTo_start b, fun _ h => h, h0⟩
  case round =>
    obtain ⟨pre, r, ar, cr, rfl, rfl, hsc, hr, h1⟩ := hrel
    have HSC := Lib.hid hsc
    have hrl : r.length ≤ 100000000 := by have := hsc.1; omega
    clear hsc h0
    have hun := unframed_any u wr (L * I pre) 82 1048576 r ar cr (by decide) (by decide) hrl (fun w' h => hr w' (hI pre w' h).2) h1
    rw [show ((82 : UInt8).toNat : Int) = 82 from rfl, show ((1048576 : Nat) : Int) = 1048576 from rfl] at hun
    gi_wp2_with (refine ⟨trivial, ?_⟩; gi_at_call 30; refine (callsIn_wide.2 hun).mono ?_)
    clear hun
    intro e w1 hU
    unfold Unf at hU
    rcases hu : unframeP 82 1048576 r with _ | ⟨s, m, rest⟩
    · rw [hu] at hU
      obtain ⟨rfl, h2⟩ := hU
      have hS := scanTo_stop HSC.out (.inl hu)
      have hfw : ∀ f, Fence.wide.fn f = True := fun _ => rfl
      clear hu h1
      gi_wp2
      refine bodyPost_ret (results_none rfl _ _ _) rfl ?_
      exact ⟨⟨_, rfl⟩, pre, hS, h2⟩
    · rw [hu] at hU
      obtain ⟨a, c, a2, c2, rfl, hr2, h2⟩ := hU
      have hfw : ∀ f, Fence.wide.fn f = True := fun _ => rfl
      have hrl2 := unframe_len hu
      have hsc := HSC.out.1
      by_cases hm : m = pre.length + 1
      · subst hm
        have hnext := scanTo_next HSC.out hu a c
        have HN := Lib.hid hnext
        have hyy0 := hY pre ⟨s, a, c, b.length - rest.length⟩ w1 ⟨by have := HSC.out.2.1; omega, by show b.length - rest.length ≤ _; omega, by show s.length ≤ _; omega⟩ h2
        have c0 := (hI pre w1 h2.right).1
        have z1 : IntKind.i64.wrap ((b.length : Int) - (rest.length : Int)) = ((b.length - rest.length : Nat) : Int) := by rw [IntKind.wrap_i64]; omega
        have z2 : ((pre.length + 1 : Nat) : Int) = (pre.length : Int) + 1 := by omega
        have z3 : ((pre.length : Int) + 1 != (pre.length : Int) + 1) = false := by simp
        have z4 : IntKind.i64.wrap ((pre.length : Int) + 1 + 1) = (pre.length : Int) + 1 + 1 := by rw [IntKind.wrap_i64]; have := HSC.out.2.1; omega
        obtain ⟨bm, hbm⟩ : ∃ bm, b.length - rest.length = bm := ⟨_, rfl⟩
        rw [hbm] at z1 hyy0 HN
        obtain ⟨fn, tmps, assign, body, hyy, hR⟩ := hyy0
        dsimp only [encX] at hyy
        rw [z2]
        have HR2 := Lib.hid hr2
        have HR := Lib.hid hr
        have HU := Lib.hid hu
        clear hu h1 h2 hr hr2 hnext hbm z2 hsc hrl2
        gi_wp2
        refine hR.mono ?_
        rintro e W3 ⟨rfl, h3⟩
        dsimp only
        clear hR hyy c0 z1
        have HRL := Lib.hid (unframe_len HU.out)
        gi_wp2
        go_roundw
        case rel =>
          refine ⟨pre ++ [⟨s, a, c, bm⟩], rest, a2, c2, rfl, ?_, HN.out, fun x hx => HR2.out x (HR.out x hx), h3⟩
          rw [List.length_append]
          go_num
        case measure =>
          have := HRL.out
          show rest.length < r.length
          omega
      · have hS := scanTo_stop HSC.out (.inr ⟨s, m, rest, hu, hm⟩)
        have hne : ((m : Int) != (pre.length : Int) + 1) = true := by
          rw [bne_iff_ne]
          omega
        have z2 : ((pre.length + 1 : Nat) : Int) = (pre.length : Int) + 1 := by omega
        have h3 := h2.right
        rw [z2]
        clear hu h1 h2 hr hr2 hrl2 hsc z2 hm
        gi_wp2
        refine bodyPost_ret (results_none rfl _ _ _) rfl ?_
        exact ⟨⟨_, rfl⟩, pre, hS, h3⟩
end Go.Proofs.YtlfmkiclaijokaaGreatDoor

namespace Go.Proofs.YtlfmkiclaijokaaGreatDoor
open Go.RowKit
set_option linter.unusedVariables false
attribute [local go_sem] Oper.semAt_some

theorem postM_ret {F : Fence} {n : Nat} {P : Program} {fn : Func} {R : Ending → World → Prop} {tmps : Array Value} {w : World} {v : Value} (hr : (results fn tmps).run P w = .ok v w) (hR : R (.returned v) w) : bodyPostM F n P fn R .ret { tmps := tmps, defers := [] } w := ⟨v, hr, hR⟩

theorem postM_col {F : Fence} {n D : Nat} {P : Program} {fn : Func} {R : Ending → World → Prop} {tmps : Array Value} {w : World} {v : Value} (hD : w.heap[D]? = some (.deferred (some []))) (hr : ∀ x, (results fn tmps).run P x = .ok v x)
    (hR : R (.returned v) (w.putObj D (.deferred none))) : bodyPostM F n P fn R .ret { tmps := tmps, defers := [{ target := .collected D, args := #[] }] } w :=
  ⟨by simp, .inl ⟨D, _, rfl, run_takeDeferred hD, v, hr _, hR⟩⟩

theorem loadP_none {d : DiskP} (h : (readD d ckN).2 ≠ 0) : loadP d = some ([], 0) := by unfold loadP; rw [if_neg h]
theorem loadP_yes {d : DiskP} {s : Bs} {g : Nat} (h : (readD d ckN).2 = 0) (hu : unframeP 75 8000000 (readD d ckN).1 = some (s, g, [])) : loadP d = some (s, g) := by unfold loadP; rw [if_pos h, hu]
theorem loadP_bad {d : DiskP} (h : (readD d ckN).2 = 0) (hu : unframeP 75 8000000 (readD d ckN).1 = none) : loadP d = none := by unfold loadP; rw [if_pos h, hu]
theorem loadP_more {d : DiskP} {s : Bs} {g : Nat} {x : UInt8} {rest : Bs} (h : (readD d ckN).2 = 0) (hu : unframeP 75 8000000 (readD d ckN).1 = some (s, g, x :: rest)) : loadP d = none := by unfold loadP; rw [if_pos h, hu]

theorem readD_len {d : DiskP} (ok : OkD d) (n : Bs) : (readD d n).1.length ≤ 8388608 := by
  unfold readD
  split
  · simp
  · split
    · simp
    · next f hf =>
      have := ok.size f (getF_name hf).2
      show (f.dry ++ f.wet).length ≤ _
      rw [List.length_append]
      exact this

theorem isL_first {u w : World} {X : HProp} {l p : Nat} (h : Sat u w (own l (.cells #[.pointer (some ⟨p, 0, none⟩), .int .i64 0, .slice none 0 0, .slice none 0 0, .int .i64 0, .int .i64 0, .int .i64 0] 56 (0, 0)) * X)) : Sat u w (isL l p ⟨0, [], [], 0, 0, 0⟩ * X) := by
  have h2 : Sat u w (fact True * (fact True * (fact True * (own l (logHead p (.slice none 0 0) (.slice none 0 0) ⟨0, [], [], 0, 0, 0⟩) * (roB (.slice none 0 0) [] * X))))) := Sat.fact_iff.2 ⟨trivial, Sat.fact_iff.2 ⟨trivial, Sat.fact_iff.2 ⟨trivial, h.roB_nil.s2⟩⟩⟩
  exact isL_anew (W := ⟨0, [], [], 0, 0, 0⟩) (A := fact True) (B := fact True) (C := fact True) ⟨by decide, by decide, by decide, by decide, by decide, (fun y hy => by cases hy), by decide, by decide⟩ rfl (h2.eq (by ac_rfl))

theorem Sat.rot2 {u w : World} {A B C D E G : HProp} {X : HProp} (h : Sat u w (A * (B * (C * (D * (E * (G * X))))))) : Sat u w (A * (C * (D * (E * (G * (B * X)))))) := h.eq (by ac_rfl)
theorem Sat.mv5 {u w : World} {A C D G X : HProp} (h : Sat u w (A * (C * (D * (G * X))))) : Sat u w (A * (G * (C * (D * X)))) := h.eq (by ac_rfl)

theorem plain_all {P : Program} {ops : Array Oper} (h : ops.toList.all (fun o => plainOp o.op) = true) : ∀ (i : Nat) (o : Oper), ops[i]? = some o → noRow P o := fun i o ho => by
  refine noRow_plain (List.all_eq_true.1 h o ?_)
  rw [← Array.getElem?_toList] at ho
  exact List.mem_of_getElem? ho

theorem wscan_any (w : World) (a : Option Addr) (n c : Nat) : Calls Tryz.prog 33 #[.slice a n c] w fun e w' => e = .returned (.func (.func 75) #[] #[.pointer (some ⟨w.heap.size, 0, none⟩)]) ∧ w' = w.alloc (.cells #[.slice a n c] 34) := by
  have hmf : ∀ (fn : Fn) (first cap : Array Value) (w : World), (Instr.makeFunc fn first cap).run Tryz.prog w = .ok (.func fn first cap) w := fun _ _ _ _ => rfl
  go_enter Tryz.func33, Tryz.ntmps33
  go_wp2_with fail
  go_ret
  exact ⟨rfl, rfl⟩

/-- What Open promises. -/
def Opened (u : World) (F : HProp) (p : Nat) (R : Int × Option WalP × DiskP) (e : Ending) (w' : World) : Prop :=
  match R.2.1 with
  | none => e = .returned (.tuple #[.pointer none, .int .i64 R.1]) ∧ Sat u w' (isD p R.2.2 * F)
  | some W => ∃ l, e = .returned (.tuple #[.pointer (some ⟨l, 0, none⟩), .int .i64 R.1]) ∧ Sat u w' (isL l p W * (isD p R.2.2 * F))

set_option maxRecDepth 100000 in
set_option maxHeartbeats 8000000 in
theorem lopen_any (u w : World) (F : HProp) (p : Nat) (d : DiskP) (hnl : ∀ f ∈ d.files, f.name.length ≤ 1000000000) (hgen : ∀ s g, loadP d = some (s, g) → g < 100) (hs : Sat u w (isD p d * F)) :
    Calls Tryz.prog 8 #[.pointer (some ⟨p, 0, none⟩)] w (Opened u F p (openW d)) := by
  refine (callsIn_wide (n := 3)).1 ?_
  refine callsIn_of_wp_marks Tryz.func8 rfl trivial ?_ rfl
  refine wpIn_wide.2 ?_
  simp only [Tryz.ntmps8, List.size_toArray, List.length_cons, List.length_nil, Nat.reduceAdd, Nat.reduceSub, Array.replicate_succ, Array.replicate_zero, List.push_toArray, List.append_toArray, List.nil_append, List.cons_append]
  generalize hR : openW d = R
  have HR := Lib.hid hR
  have HG := Lib.hid hgen
  have HNL := Lib.hid hnl
  clear hR hgen hnl
  go_wp2_with fail
  refine (doff_any u w _ p d hs).mono ?_
  rintro e w1 ⟨rfl, rfl⟩
  dsimp only
  rcases hoff : d.off with _ | _
  case true =>
    have e := HR.out
    unfold openW at e
    rw [if_pos hoff] at e
    subst e
    have H := Lib.hid hs
    clear hs hoff
    go_wp2_with fail
    exact postM_ret (results_tmp2 rfl _ _ _) ⟨rfl, H.out⟩
  have HOFF := Lib.hid hoff
  clear hoff
  have h1 := (hs.alloc (.cells #[.pointer (some ⟨p, 0, none⟩), .int .i64 0, .slice none 0 0, .slice none 0 0, .int .i64 0, .int .i64 0, .int .i64 0] 56)).alloc (.cells #[.pointer (some ⟨w.heap.size, 0, none⟩)] 28)
  rw [World.size_alloc] at h1
  generalize hl : w.heap.size = l at h1
  have HLQ := Lib.hid hl
  clear hl hs
  have h2 : Sat u _ (isL l p ⟨0, [], [], 0, 0, 0⟩ * (own (l + 1) (.cells #[.pointer (some ⟨l, 0, none⟩)] 28 (0, 0)) * (isD p d * F))) := isL_first h1.s2
  clear h1
  have okd := (isD_iff.1 (h2.eq (by ac_rfl) : Sat u _ (isD p d * (isL l p ⟨0, [], [], 0, 0, 0⟩ * (own (l + 1) (.cells #[.pointer (some ⟨l, 0, none⟩)] 28 (0, 0)) * F))))).1
  have hrl := readD_len okd ckN
  have HOKD := Lib.hid okd
  clear okd
  go_wp2_with fail
  rw [HLQ.out]
  refine (dread_any u _ _ p d ckN (by decide) (h2.eq (by ac_rfl) : Sat u _ (isD p d * (isL l p ⟨0, [], [], 0, 0, 0⟩ * (own (l + 1) (.cells #[.pointer (some ⟨l, 0, none⟩)] 28 (0, 0)) * F))))).mono ?_
  rintro e w2 ⟨a2, c2, rfl, h3⟩
  dsimp only
  have h4 : Sat u w2 (isL l p ⟨0, [], [], 0, 0, 0⟩ * (own (l + 1) (.cells #[.pointer (some ⟨l, 0, none⟩)] 28 (0, 0)) * (ownB (.slice a2 (readD d ckN).1.length c2) (readD d ckN).1 * (isD p d * F)))) := h3.eq (by ac_rfl)
  clear h2 h3 HLQ
  go_upto_if 31 with fail
  go_cut [5, 6, 7, 8, 9, 10] from 25 (fun _ _ _ _ _ _ wx => ∃ s g, loadP d = some (s, g) ∧ Sat u wx (isL l p ⟨g, s, [], 0, 0, 0⟩ * (own (l + 1) (.cells #[.pointer (some ⟨l, 0, none⟩)] 28 (0, 0)) * (isD p d * F))))
  case first J K' hJ hmet =>
    by_cases hx : (readD d ckN).2 = 0
    case neg =>
      have hxb : ((readD d ckN).2 == 0) = false := by rw [beq_eq_false_iff_ne]; exact hx
      have HX := Lib.hid hx
      have H4 := Lib.hid (h4.eq (show _ = ownB (.slice a2 (readD d ckN).1.length c2) (readD d ckN).1 * (isL l p ⟨0, [], [], 0, 0, 0⟩ * (own (l + 1) (.cells #[.pointer (some ⟨l, 0, none⟩)] 28 (0, 0)) * (isD p d * F))) by ac_rfl)).right
      clear h4 hx
      go_wp2_with fail
      go_meet
      exact ⟨[], 0, loadP_none HX.out, H4.out⟩
    have HX := Lib.hid hx
    rw [hx]
    obtain ⟨b, hb⟩ : ∃ b, (readD d ckN).1 = b := ⟨_, rfl⟩
    rw [hb] at h4 hrl ⊢
    have HBB := Lib.hid hb
    clear hx hb
    have hun := unframed_any u w2 _ 75 8000000 b a2 c2 (by decide) (by decide) (by omega) (fun w' h => h.right.right.bytes) h4
    rw [show ((75 : UInt8).toNat : Int) = 75 from rfl, show ((8000000 : Nat) : Int) = 8000000 from rfl] at hun
    go_wp2_with fail
    refine hun.mono ?_
    intro e w3 hU
    clear hun h4
    unfold Unf at hU
    have hoff := HOFF.out
    rcases hu : unframeP 75 8000000 b with _ | ⟨s, g, rest⟩
    · rw [hu] at hU
      obtain ⟨rfl, h5⟩ := hU
      have e := HR.out
      unfold openW at e
      rw [if_neg (by rw [hoff]; decide), loadP_bad HX.out (by rw [HBB.out]; exact hu)] at e
      dsimp only at e
      subst e
      have H5 := Lib.hid h5.right.right.right
      clear h5 hu
      go_wp2_with fail
      exact postM_ret (results_tmp2 rfl _ _ _) ⟨rfl, H5.out⟩
    · rw [hu] at hU
      obtain ⟨a3, c3, a4, c4, rfl, _, h5⟩ := hU
      rcases rest with _ | ⟨x, rest⟩
      · have hload := loadP_yes HX.out (by rw [HBB.out]; exact hu)
        have hg := HG.out s g hload
        have HLO := Lib.hid hload
        have HUL := Lib.hid (unframe_len hu)
        clear hu hload
        go_wp2_with fail
        refine wp_noPanic ?_
        refine wp_region_seq [(0, true), (1, true), (2, true), (3, true), (4, true), (5, true), (6, false), (7, true), (8, true), (9, false)] (fun x => x.cell? ⟨l + 1, 0, none⟩ = some (.pointer (some ⟨l, 0, none⟩))) (by kernel_rfl) (by kernel_rfl) (fun _ _ _ _ _ h => h) ?_
        simp only [pickOps, Array.getD_eq_getD_getElem?, List.getElem?_toArray, List.getElem?_cons_succ, List.getElem?_cons_zero, Option.getD_some]
        have h6 := (Sat.roB_own h5).drew
        generalize w3.drew = w4 at h6 ⊢
        clear h5
        have h7 : Sat u w4 (isL l p ⟨0, [], [], 0, 0, 0⟩ * (roB (.slice a3 s.length c3) s * (own (l + 1) (.cells #[.pointer (some ⟨l, 0, none⟩)] 28 (0, 0)) * (ownB (.slice a2 b.length c2) b * (isD p d * F))))) := h6.s2
        clear h6
        obtain ⟨_, a5, c5, a6, c6, R6, hR6, h8⟩ := isL_iff.1 h7
        have hR0 : R6 = [] := List.map_eq_nil_iff.1 hR6
        subst hR0
        clear h7 hR6
        repeat (first
          | (refine wpSeq_run (by rfl) (h8.right.right.right.right.right.cell 0) (fun K hK => ⟨?_, ?_, ?_⟩); rotate_left; (· (intro wS hSw; go_simp <;> with_reducible rfl)); simp only [Act.put, List.setIfInBounds_toArray, List.set_cons_zero, List.set_cons_succ]; refine hK _ ?_; clear hK K)
          | (refine wpSeq_skip (by rfl) (h8.right.right.right.right.right.cell 0) (fun K hK => ?_); simp only [Act.put, List.setIfInBounds_toArray, List.set_cons_zero, List.set_cons_succ]; refine hK _ ?_; clear hK K))
        have q2 := h8.cell 2
        have g2 := h8.free 2
        refine wpSeq_act (by rfl) (fun K hK => ?_)
        go_simp
        have h9 : Sat u (w4.setCell ⟨l, 2, none⟩ (.slice a3 s.length c3)) (own l (.cells #[.pointer (some ⟨p, 0, none⟩), .int .i64 0, .slice a3 s.length c3, .slice a6 0 c6, .int .i64 0, .int .i64 0, .int .i64 0] 56 (0, 0)) * _) := h8.setCell 2 (.slice a3 s.length c3)
        try dsimp only
        try simp only [Act.put, List.setIfInBounds_toArray, List.set_cons_zero, List.set_cons_succ]
        refine hK _ _ (_) ((fun _ h => h)) (h9.right.right.right.right.right.cell 0) ?_
        clear hK K
        generalize w4.setCell ⟨l, 2, none⟩ (.slice a3 s.length c3) = w5 at h9 ⊢
        clear h8 q2 g2
        repeat (first
          | (refine wpSeq_run (by rfl) (h9.right.right.right.right.right.cell 0) (fun K hK => ⟨?_, ?_, ?_⟩); rotate_left; (· (intro wS hSw; go_simp <;> with_reducible rfl)); simp only [Act.put, List.setIfInBounds_toArray, List.set_cons_zero, List.set_cons_succ]; refine hK _ ?_; clear hK K)
          | (refine wpSeq_skip (by rfl) (h9.right.right.right.right.right.cell 0) (fun K hK => ?_); simp only [Act.put, List.setIfInBounds_toArray, List.set_cons_zero, List.set_cons_succ]; refine hK _ ?_; clear hK K))
        have q2 : w5.cell? ⟨l, 1, none⟩ = some (.int .i64 0) := h9.cell 1
        have g2 := h9.free 1
        refine wpSeq_act (by rfl) (fun K hK => ?_)
        go_simp
        have h10 : Sat u (w5.setCell ⟨l, 1, none⟩ (.int .i64 g)) (own l (logHead p (.slice a3 s.length c3) (.slice a6 0 c6) ⟨g, s, [], 0, 0, 0⟩) * _) := h9.setCell 1 (.int .i64 g)
        try dsimp only
        try simp only [Act.put, List.setIfInBounds_toArray, List.set_cons_zero, List.set_cons_succ]
        refine hK _ _ (_) ((fun _ h => h)) (h10.right.right.right.right.right.cell 0) ?_
        clear hK K
        generalize w5.setCell ⟨l, 1, none⟩ (.int .i64 g) = w6 at h10 ⊢
        clear h9 q2 g2
        refine wpSeq_end ?_
        dsimp only
        have hbl : s.length ≤ 100000000 := by have := HUL.out; omega
        have h11 : Sat u w6 (own l (logHead p (.slice a3 s.length c3) (.slice a6 ([] : List RecV).length c6) ⟨g, s, [], 0, 0, 0⟩) * (roB (.slice a3 s.length c3) s * (ownRow 34 1 (.slice a6 ([] : List RecV).length c6) ([] : List RecV).length (([] : List RecV).map (·.2)) * (roR [] * (own (l + 1) (.cells #[.pointer (some ⟨l, 0, none⟩)] 28 (0, 0)) * (isD p d * F)))))) := by
          have h12 := h10.eq (show _ = roB (.slice a5 ([] : Bs).length c5) [] * (ownB (.slice a2 b.length c2) b * (own l (logHead p (.slice a3 s.length c3) (.slice a6 ([] : List RecV).length c6) ⟨g, s, [], 0, 0, 0⟩) * (roB (.slice a3 s.length c3) s * (ownRow 34 1 (.slice a6 ([] : List RecV).length c6) ([] : List RecV).length (([] : List RecV).map (·.2)) * (roR [] * (own (l + 1) (.cells #[.pointer (some ⟨l, 0, none⟩)] 28 (0, 0)) * (isD p d * F))))))) by ac_rfl)
          exact h12.right.right
        have H12 := Lib.hid (isL_mk (W := ⟨g, s, [], 0, 0, 0⟩) (R := []) ⟨hg, (by show 0 ≤ _; omega), (by show 0 ≤ _; omega), (by show 0 ≤ _; omega), hbl, (fun y hy => by cases hy), (by show (-9223372036854775808 : Int) ≤ 0; decide), (by show (0 : Int) ≤ _; decide)⟩ rfl h11)
        clear h10 h11
        go_wp2_with fail
        go_meet
        exact ⟨s, g, HLO.out, H12.out⟩
      · have e := HR.out
        unfold openW at e
        rw [if_neg (by rw [hoff]; decide), loadP_more HX.out (by rw [HBB.out]; exact hu)] at e
        dsimp only at e
        subst e
        have H5 := Lib.hid h5.right.right.right.right
        have hp : (0 : Int) < ((x :: rest).length : Int) := by simp
        clear h5 hu
        generalize (x :: rest).length = k at hp
        go_wp2_with fail
        exact postM_ret (results_tmp2 rfl _ _ _) ⟨rfl, H5.out⟩
  case rest =>
    obtain ⟨s, g, hload, h5⟩ := hcut
    have hg := HG.out s g hload
    have hopen : openW d = if (tidyP (nameW g) (d.files.map FileP.name) d).1 ≠ 0 then ((tidyP (nameW g) (d.files.map FileP.name) d).1, none, (tidyP (nameW g) (d.files.map FileP.name) d).2) else lastP (tidyP (nameW g) (d.files.map FileP.name) d).2 g s := by
      unfold openW
      rw [if_neg (by rw [HOFF.out]; decide), hload]
    rw [hopen] at HR
    have h6 : Sat u wc (isL l p ⟨g, s, [], 0, 0, 0⟩ * (isD p d * (own (l + 1) (.cells #[.pointer (some ⟨l, 0, none⟩)] 28 (0, 0)) * F))) := h5.eq (by ac_rfl)
    have c1 : wc.cell? ⟨l + 1, 0, none⟩ = some (.pointer (some ⟨l, 0, none⟩)) := h6.right.right.cell 0
    have hti := ltidy_any u wc _ l p ⟨g, s, [], 0, 0, 0⟩ d HNL.out h6
    have hte := tidyP_err (nameW g) (d.files.map FileP.name) d
    dsimp only at hti
    generalize tidyP (nameW g) (d.files.map FileP.name) d = t at HR hti hte
    clear h4 h5 hload hopen
    go_wp2_with fail
    refine hti.mono ?_
    rintro e w3 ⟨rfl, h7⟩
    clear hti h6 c1
    dsimp only
    by_cases ht : t.1 = 0
    case neg =>
      have e := HR.out
      rw [if_pos ht] at e
      subst e
      have htb : (t.1 != 0) = true := by simpa using ht
      have H7 := Lib.hid (h7.right.eq (show _ = own (l + 1) (.cells #[.pointer (some ⟨l, 0, none⟩)] 28 (0, 0)) * (isD p t.2 * F) by ac_rfl)).right
      clear h7 ht hte
      go_wp2_with fail
      exact postM_ret (results_tmp2 rfl _ _ _) ⟨rfl, H7.out⟩
    have e := HR.out
    rw [if_neg (by simp [ht])] at e
    have HR2 := Lib.hid e
    rw [ht]
    clear ht hte HR e
    generalize t.2 = d2 at h7 HR2
    have c1 : w3.cell? ⟨l + 1, 0, none⟩ = some (.pointer (some ⟨l, 0, none⟩)) := h7.right.right.cell 0
    obtain ⟨okW, k0, k1, _, _, _, _, _⟩ := isL_cells h7
    have okd2 := (isD_iff.1 h7.s2).1
    have hbl := readD_len okd2 (nameW g)
    have hnw := nameW_len g
    have HOK2 := Lib.hid okd2
    dsimp only at k1
    clear okd2 okW
    go_wp2_with fail
    refine (lname_any w3 l g hg k1).mono ?_
    rintro e w4 ⟨rfl, rfl⟩
    dsimp only
    go_wp2_with fail
    refine (dread_any u w3 _ p d2 (nameW g) (by omega) h7.s2).mono ?_
    rintro e w4 ⟨a5, c5, rfl, h8⟩
    dsimp only
    have hlast : lastP d2 g s = if (readD d2 (nameW g)).2 ≠ 0 then (0, some ⟨g, s, [], 0, 0, 0⟩, d2) else
      (if (if (scanP ((readD d2 (nameW g)).1.length + 1) 1 (readD d2 (nameW g)).1).2 < (readD d2 (nameW g)).1.length then driesD d2 (nameW g) (nameW g) (cutL (scanP ((readD d2 (nameW g)).1.length + 1) 1 (readD d2 (nameW g)).1).2) else driesD d2 (nameW g) (nameW g) wholeL).1 ≠ 0 then
        ((if (scanP ((readD d2 (nameW g)).1.length + 1) 1 (readD d2 (nameW g)).1).2 < (readD d2 (nameW g)).1.length then driesD d2 (nameW g) (nameW g) (cutL (scanP ((readD d2 (nameW g)).1.length + 1) 1 (readD d2 (nameW g)).1).2) else driesD d2 (nameW g) (nameW g) wholeL).1, none, (if (scanP ((readD d2 (nameW g)).1.length + 1) 1 (readD d2 (nameW g)).1).2 < (readD d2 (nameW g)).1.length then driesD d2 (nameW g) (nameW g) (cutL (scanP ((readD d2 (nameW g)).1.length + 1) 1 (readD d2 (nameW g)).1).2) else driesD d2 (nameW g) (nameW g) wholeL).2)
      else (0, some ⟨g, s, (scanP ((readD d2 (nameW g)).1.length + 1) 1 (readD d2 (nameW g)).1).1, (scanP ((readD d2 (nameW g)).1.length + 1) 1 (readD d2 (nameW g)).1).1.length, (scanP ((readD d2 (nameW g)).1.length + 1) 1 (readD d2 (nameW g)).1).2, 0⟩, (if (scanP ((readD d2 (nameW g)).1.length + 1) 1 (readD d2 (nameW g)).1).2 < (readD d2 (nameW g)).1.length then driesD d2 (nameW g) (nameW g) (cutL (scanP ((readD d2 (nameW g)).1.length + 1) 1 (readD d2 (nameW g)).1).2) else driesD d2 (nameW g) (nameW g) wholeL).2)) := rfl
    rw [hlast] at HR2
    clear hlast k0 k1 c1 h7
    by_cases hx2 : (readD d2 (nameW g)).2 = 0
    case neg =>
      have e := HR2.out
      rw [if_pos hx2] at e
      subst e
      have hxb : ((readD d2 (nameW g)).2 != 0) = true := by simpa using hx2
      have c1 : w4.cell? ⟨l + 1, 0, none⟩ = some (.pointer (some ⟨l, 0, none⟩)) := h8.right.right.right.cell 0
      have H8 := Lib.hid (h8.eq (show _ = ownB (.slice a5 (readD d2 (nameW g)).1.length c5) (readD d2 (nameW g)).1 * (own (l + 1) (.cells #[.pointer (some ⟨l, 0, none⟩)] 28 (0, 0)) * (isL l p ⟨g, s, [], 0, 0, 0⟩ * (isD p d2 * F))) by ac_rfl)).right.right
      clear h8 hx2
      go_wp2_with fail
      exact postM_ret (results_tmp2 rfl _ _ _) ⟨l, rfl, H8.out⟩
    have e := HR2.out
    rw [if_neg (by simp [hx2])] at e
    rw [hx2]
    obtain ⟨b, hb⟩ : ∃ b, (readD d2 (nameW g)).1 = b := ⟨_, rfl⟩
    rw [hb] at e h8 hbl ⊢
    have HR3 := Lib.hid e
    clear e HR2 hx2 hb
    go_wp2_with fail
    refine (wscan_any w4 a5 b.length c5).mono ?_
    rintro e w5 ⟨rfl, rfl⟩
    dsimp only
    have h9 := h8.alloc (.cells #[.slice a5 b.length c5] 34)
    generalize hbx : w4.heap.size = bx at h9 ⊢
    have h10 : Sat u (w4.alloc (.cells #[.slice a5 b.length c5] 34)) (own bx (.cells #[.slice a5 b.length c5] 34 (0, 0)) * (ownB (.slice a5 b.length c5) b * (isL l p ⟨g, s, [], 0, behX [], 0⟩ * (own (l + 1) (.cells #[.pointer (some ⟨l, 0, none⟩)] 28 (0, 0)) * (isD p d2 * F))))) := h9.eq (by show _ = own bx _ * (ownB _ b * (isL l p ⟨g, s, [], 0, 0, 0⟩ * _)); ac_rfl)
    clear h8 h9 hbx
    generalize w4.alloc (.cells #[.slice a5 b.length c5] 34) = w5 at h10 ⊢
    go_wp2_with fail
    apply range_sat (u := u) (n := 2) (G := goodX) (α := RecX) (encs := encX) (A := ownX) (S := scanned b) (gf := 75) (lb := #[.pointer (some ⟨bx, 0, none⟩)]) (I := fun pre => own bx (.cells #[.slice a5 b.length c5] 34 (0, 0)) * (ownB (.slice a5 b.length c5) b * (isL l p ⟨g, s, pre.map RecX.s, 0, behX pre, 0⟩ * (own (l + 1) (.cells #[.pointer (some ⟨l, 0, none⟩)] 28 (0, 0)) * (isD p d2 * F)))))
    case hg => rfl
    case eg => exact fun args w => enters Tryz.func75 (by kernel_rfl) (by kernel_rfl) args w
    case hps => intro x; rfl
    case hs => exact h10
    case hassign =>
      intro lp x W K hK
      dsimp only [encX]
      gi_wp2
      exact hK
    case hgen =>
      intro lp L W hW hY
      refine scan1_gen u 2 lp bx b a5 c5 hbl L _ (fun pre W h => ⟨h.right.cell 0, h.right.right.bytes⟩) W hW hY
    case hbody =>
      intro lp L pre x W hG hW
      obtain ⟨i0, hi, hz0, hz1, hz2⟩ := info_parts info_bytes
      obtain ⟨hG1, hG2, hG3⟩ := hG
      have h1 : Sat u W (isL l p ⟨g, s, pre.map RecX.s, 0, behX pre, 0⟩ * (own (l + 1) (.cells #[.pointer (some ⟨l, 0, none⟩)] 28 (0, 0)) * (ownX x * (L * (own bx (.cells #[.slice a5 b.length c5] 34 (0, 0)) * (ownB (.slice a5 b.length c5) b * (isD p d2 * F))))))) := hW.eq (by ac_rfl)
      obtain ⟨ok6, a1, c1, a7, c7, R6, hR6, h2⟩ := isL_iff.1 h1
      have hrm6 : R6.length < 900000 := by
        have : R6.length = pre.length := by rw [← List.length_map (f := fun y : RecV => y.1), hR6]; show (pre.map RecX.s).length = _; rw [List.length_map]
        omega
      have HR6 := Lib.hid hR6
      have OK6 := Lib.hid ok6
      clear hW h1 hR6 ok6 h10 HR3 hnw
      generalize hst : (⟨g, s, pre.map RecX.s, 0, behX pre, 0⟩ : WalP) = Wp at h2 HR6 OK6
      have HWP := Lib.hid hst
      clear hst
      gi_wp2
      refine round_region_two 12 [(0, 2), (1, 2), (2, 2), (3, 2), (4, 2), (5, 1), (6, 2), (9, 2), (7, 0), (8, 0), (10, 2), (11, 2)] [12, 13, 14, 15] (fun x => x.cell? ⟨l, 3, none⟩ = some (.slice a7 R6.length c7)) (fun x => x.cell? ⟨l + 1, 0, none⟩ = some (.pointer (some ⟨l, 0, none⟩))) (by kernel_rfl) (plain_all (by kernel_rfl)) (by rintro ⟨_, _, h⟩; exact h) (by kernel_rfl) (fun _ _ _ _ _ h => h) ?_
      simp only [pickT, pickTail, List.map_cons, List.map_nil, Array.getD_eq_getD_getElem?, List.getElem?_toArray, List.getElem?_cons_succ, List.getElem?_cons_zero, Option.getD_some]
      obtain ⟨hv, hhv⟩ : ∃ hv, logHead p (.slice a1 Wp.state.length c1) (.slice a7 R6.length c7) Wp = hv := ⟨_, rfl⟩
      have h3 : Sat u W.drew (own l (logHead p (.slice a1 Wp.state.length c1) (.slice a7 R6.length c7) Wp) * (own (l + 1) (.cells #[.pointer (some ⟨l, 0, none⟩)] 28 (0, 0)) * (roB (.slice x.a x.s.length x.c) x.s * (roB (.slice a1 Wp.state.length c1) Wp.state * (ownRow 34 1 (.slice a7 R6.length c7) R6.length (R6.map (·.2)) * (roR R6 * (L * (own bx (.cells #[.slice a5 b.length c5] 34 (0, 0)) * (ownB (.slice a5 b.length c5) b * (isD p d2 * F)))))))))) := by
        rw [hhv] at h2 ⊢
        have h4 : Sat u W (ownRow 5 1 (.slice x.a x.s.length x.c) x.s.length (x.s.map B) * (own l hv * (own (l + 1) (.cells #[.pointer (some ⟨l, 0, none⟩)] 28 (0, 0)) * (roB (.slice a1 Wp.state.length c1) Wp.state * (ownRow 34 1 (.slice a7 R6.length c7) R6.length (R6.map (·.2)) * (roR R6 * (L * (own bx (.cells #[.slice a5 b.length c5] 34 (0, 0)) * (ownB (.slice a5 b.length c5) b * (isD p d2 * F)))))))))) := h2.eq (by
          show own l hv * (_ * (_ * (_ * (_ * (ownRow 5 1 (.slice x.a x.s.length x.c) x.s.length (x.s.map B) * _))))) = _
          ac_rfl)
        exact (h4.roB_own.eq (by ac_rfl)).drew
      clear h2 hhv hv
      generalize W.drew = W1 at h3 ⊢
      have hST : W1.cell? ⟨l, 3, none⟩ = some (.slice a7 R6.length c7) ∧ W1.cell? ⟨l + 1, 0, none⟩ = some (.pointer (some ⟨l, 0, none⟩)) := ⟨h3.cell 3, h3.right.cell 0⟩
      repeat (refine wpSeqT_runT (by rfl) hST (fun K hK => ⟨?_, ?_, ?_⟩); rotate_left; (· (intro wS hSw; go_simp <;> with_reducible rfl)); simp only [Act.put, List.setIfInBounds_toArray, List.set_cons_zero, List.set_cons_succ]; refine hK _ ?_; clear hK K)
      repeat (refine wpSeqT_runS (by rfl) hST (fun K hK => ⟨?_, ?_, ?_⟩); rotate_left; (· (intro wS hSw; go_simp <;> with_reducible rfl)); simp only [Act.put, List.setIfInBounds_toArray, List.set_cons_zero, List.set_cons_succ]; refine hK _ ?_; clear hK K)
      repeat (refine wpSeqT_runT (by rfl) hST (fun K hK => ⟨?_, ?_, ?_⟩); rotate_left; (· (intro wS hSw; go_simp <;> with_reducible rfl)); simp only [Act.put, List.setIfInBounds_toArray, List.set_cons_zero, List.set_cons_succ]; refine hK _ ?_; clear hK K)
      refine wpSeqT_act (by rfl) (fun K hK => ?_)
      go_simp
      have h4 := h3.alloc (.cells #[.slice x.a x.s.length x.c] 34)
      clear hST
      try dsimp only
      try simp only [Act.put, List.setIfInBounds_toArray, List.set_cons_zero, List.set_cons_succ]
      refine hK _ _ (_) ((fun _ h => h)) (h4.right.cell 3) (h4.right.right.cell 0) ?_
      clear hK K
      have h5 : Sat u (W1.alloc (.cells #[.slice x.a x.s.length x.c] 34)) (ownRow 34 1 (.slice a7 R6.length c7) R6.length (R6.map (·.2)) * (own W1.heap.size (.cells #[.slice x.a x.s.length x.c] 34 (0, 0)) * (own l (logHead p (.slice a1 Wp.state.length c1) (.slice a7 R6.length c7) Wp) * (own (l + 1) (.cells #[.pointer (some ⟨l, 0, none⟩)] 28 (0, 0)) * (roB (.slice x.a x.s.length x.c) x.s * (roB (.slice a1 Wp.state.length c1) Wp.state * (roR R6 * (L * (own bx (.cells #[.slice a5 b.length c5] 34 (0, 0)) * (ownB (.slice a5 b.length c5) b * (isD p d2 * F))))))))))) := h4.eq (by ac_rfl)
      refine wpSeqT_act (by rfl) (fun K hK => ?_)
      refine wp_append_sl _ _ 47 rfl i0 (.slice none 0 0) Tryz.underlying47 hi hz0 hz1 hz2 rfl (by decide) rfl rfl h5 (x := .slice (some ⟨W1.heap.size, 0, none⟩) 1 1) (n := R6.length) (m := 1) (news := [.slice x.a x.s.length x.c]) (.inr ⟨_, _, rfl, Nat.le_refl _, by decide, fun j y hy => by rw [addr_add, h4.cell]; simpa using hy⟩) rfl (by intro q hq; simp only [List.mem_cons, List.not_mem_nil, or_false] at hq; subst hq; rfl) (by omega) ?_
      intro a9 c9 W2 h6 hxx
      clear hxx h3 h4 h5
      have h7 := h6.right.right
      try dsimp only
      try simp only [Act.put, List.setIfInBounds_toArray, List.set_cons_zero, List.set_cons_succ]
      refine hK _ _ (_) ((fun _ h => h)) (h7.cell 3) (h7.right.cell 0) ?_
      clear hK K
      repeat (refine wpSeqT_runT (by rfl) ⟨h7.cell 3, h7.right.cell 0⟩ (fun K hK => ⟨?_, ?_, ?_⟩); rotate_left; (· (intro wS hSw; go_simp <;> with_reducible rfl)); simp only [Act.put, List.setIfInBounds_toArray, List.set_cons_zero, List.set_cons_succ]; refine hK _ ?_; clear hK K)
      refine wpSeqT_tail ?_
      have e := HWP.out
      subst e
      have q3 : W2.cell? ⟨l, 3, none⟩ = some (.slice a7 R6.length c7) := h7.cell 3
      have g3 := h7.free 3
      have h8 : Sat u W2 (own l (.cells #[.pointer (some ⟨p, 0, none⟩), .int .i64 g, .slice a1 s.length c1, .slice a7 R6.length c7, .int .i64 0, .int .i64 (behX pre), .int .i64 0] 56 (0, 0)) * (own (l + 1) (.cells #[.pointer (some ⟨l, 0, none⟩)] 28 (0, 0)) * (ownRow 34 1 (.slice a9 (R6.length + 1) c9) (R6.length + 1) (R6.map (·.2) ++ [.slice x.a x.s.length x.c]) * (roR R6 * (roB (.slice x.a x.s.length x.c) x.s * (roB (.slice a1 s.length c1) s * (L * (own bx (.cells #[.slice a5 b.length c5] 34 (0, 0)) * (ownB (.slice a5 b.length c5) b * (isD p d2 * F)))))))))) := by
        obtain ⟨nb, hnb⟩ : ∃ nb, own W1.heap.size (.cells #[.slice x.a x.s.length x.c] 34 (0, 0)) = nb := ⟨_, rfl⟩
        rw [hnb] at h6
        obtain ⟨hd, hhd⟩ : ∃ hd : Obj, .cells #[.pointer (some ⟨p, 0, none⟩), .int .i64 g, .slice a1 s.length c1, .slice a7 R6.length c7, .int .i64 0, .int .i64 (behX pre), .int .i64 0] 56 (0, 0) = hd := ⟨_, rfl⟩
        have h6' : Sat u W2 (ownRow 34 1 (.slice a9 (R6.length + 1) c9) (R6.length + 1) (R6.map (·.2) ++ [.slice x.a x.s.length x.c]) * (nb * (own l hd * (own (l + 1) (.cells #[.pointer (some ⟨l, 0, none⟩)] 28 (0, 0)) * (roB (.slice x.a x.s.length x.c) x.s * (roB (.slice a1 s.length c1) s * (roR R6 * (L * (own bx (.cells #[.slice a5 b.length c5] 34 (0, 0)) * (ownB (.slice a5 b.length c5) b * (isD p d2 * F))))))))))) := by rw [← hhd]; exact h6
        rw [hhd]
        exact (h6'.s2.right.eq (by ac_rfl))
      have h9 : Sat u (W2.setCell ⟨l, 3, none⟩ (.slice a9 (R6.length + 1) c9)) (own l (.cells #[.pointer (some ⟨p, 0, none⟩), .int .i64 g, .slice a1 s.length c1, .slice a9 (R6.length + 1) c9, .int .i64 0, .int .i64 (behX pre), .int .i64 0] 56 (0, 0)) * _) := h8.setCell 3 (.slice a9 (R6.length + 1) c9)
      clear h6 h7 h8
      refine wpSeqG_act (by rfl) (fun K hK => ?_)
      go_simp
      try simp only [Act.put, List.setIfInBounds_toArray, List.set_cons_zero, List.set_cons_succ]
      refine hK _ _ (h9.right.cell 0) ?_
      clear hK K
      generalize W2.setCell ⟨l, 3, none⟩ (.slice a9 (R6.length + 1) c9) = W3 at h9 ⊢
      clear q3 g3
      refine wpSeqG_act (by rfl) (fun K hK => ?_)
      go_simp
      try simp only [Act.put, List.setIfInBounds_toArray, List.set_cons_zero, List.set_cons_succ]
      refine hK _ _ (h9.right.cell 0) ?_
      clear hK K
      refine wpSeqG_act (by rfl) (fun K hK => ?_)
      go_simp
      try simp only [Act.put, List.setIfInBounds_toArray, List.set_cons_zero, List.set_cons_succ]
      refine hK _ _ (h9.right.cell 0) ?_
      clear hK K
      have q5 : W3.cell? ⟨l, 5, none⟩ = some (.int .i64 (behX pre)) := h9.cell 5
      have g5 := h9.free 5
      have h10 : Sat u (W3.setCell ⟨l, 5, none⟩ (.int .i64 x.beh)) (own l (.cells #[.pointer (some ⟨p, 0, none⟩), .int .i64 g, .slice a1 s.length c1, .slice a9 (R6.length + 1) c9, .int .i64 0, .int .i64 x.beh, .int .i64 0] 56 (0, 0)) * _) := h9.setCell 5 (.int .i64 x.beh)
      refine wpSeqG_act (by rfl) (fun K hK => ?_)
      go_simp
      try simp only [Act.put, List.setIfInBounds_toArray, List.set_cons_zero, List.set_cons_succ]
      refine hK _ _ (h10.right.cell 0) ?_
      clear hK K
      refine wpSeqG_end ?_
      have h11 := rowR_snoc2 (b := x.s) (v := .slice x.a x.s.length x.c) h10.rot2
      obtain ⟨R7, hR7⟩ : ∃ R7 : List RecV, R6 ++ [(x.s, Value.slice x.a x.s.length x.c)] = R7 := ⟨_, rfl⟩
      have hl7 : R6.length + 1 = R7.length := by rw [← hR7]; simp
      have hm7 : R7.map (·.1) = (pre ++ [x]).map RecX.s := by rw [← hR7, List.map_append, HR6.out, List.map_append]; rfl
      rw [hR7, hl7] at h11
      have hb7 : behX (pre ++ [x]) = x.beh := behX_snoc _ _
      have okW : OkW ⟨g, s, (pre ++ [x]).map RecX.s, 0, behX (pre ++ [x]), 0⟩ := ⟨hg, (by show 0 ≤ _; omega), (by show behX (pre ++ [x]) ≤ _; rw [hb7]; omega), (by show ((pre ++ [x]).map RecX.s).length ≤ _; rw [List.length_map, List.length_append]; simp; omega), OK6.out.state, (fun y hy => by
        have hy' : y ∈ pre.map RecX.s ++ [x.s] := by rw [show pre.map RecX.s ++ [x.s] = (pre ++ [x]).map RecX.s from (by rw [List.map_append]; rfl)]; exact hy
        rcases List.mem_append.1 hy' with hy | hy
        · exact OK6.out.recs y hy
        · simp only [List.mem_cons, List.not_mem_nil, or_false] at hy
          subst hy
          exact hG3), (by show (-9223372036854775808 : Int) ≤ 0; decide), (by show (0 : Int) ≤ _; decide)⟩
      have h12 : Sat u (W3.setCell ⟨l, 5, none⟩ (.int .i64 x.beh)) (own l (logHead p (.slice a1 s.length c1) (.slice a9 R7.length c9) ⟨g, s, (pre ++ [x]).map RecX.s, 0, behX (pre ++ [x]), 0⟩) * (roB (.slice a1 s.length c1) s * (ownRow 34 1 (.slice a9 R7.length c9) R7.length (R7.map (·.2)) * (roR R7 * (own (l + 1) (.cells #[.pointer (some ⟨l, 0, none⟩)] 28 (0, 0)) * (L * (own bx (.cells #[.slice a5 b.length c5] 34 (0, 0)) * (ownB (.slice a5 b.length c5) b * (isD p d2 * F))))))))) := by
        unfold logHead
        rw [hb7]
        exact h11.mv5
      have h13 := isL_mk (p := p) (W := ⟨g, s, (pre ++ [x]).map RecX.s, 0, behX (pre ++ [x]), 0⟩) okW hm7 h12
      exact h13.eq (by ac_rfl)
    case hdone =>
      intro D xs W hS hW
      have hS2 : scanP (b.length + 1) 1 b = (xs.map RecX.s, behX xs) := hS
      have e0 := HR3.out
      rw [hS2] at e0
      dsimp only at e0
      have HR4 := Lib.hid e0
      have h1 : Sat u W (isL l p ⟨g, s, xs.map RecX.s, 0, behX xs, 0⟩ * (own (l + 1) (.cells #[.pointer (some ⟨l, 0, none⟩)] 28 (0, 0)) * (own D (.deferred (some [])) * (isD p d2 * F)))) := by
        have h2 : Sat u W (own bx (.cells #[.slice a5 b.length c5] 34 (0, 0)) * (ownB (.slice a5 b.length c5) b * (isL l p ⟨g, s, xs.map RecX.s, 0, behX xs, 0⟩ * (own (l + 1) (.cells #[.pointer (some ⟨l, 0, none⟩)] 28 (0, 0)) * (own D (.deferred (some [])) * (isD p d2 * F)))))) := hW.eq (by ac_rfl)
        exact h2.right.right
      clear hW h10 e0 HR3 hS hS2
      dsimp only
      go_wp2_with fail
      refine wp_noPanic ?_
      obtain ⟨ok6, a1, c1, a7, c7, R6, hR6, h2⟩ := isL_iff.1 h1
      have hl6 : R6.length = (xs.map RecX.s).length := by rw [← List.length_map (f := fun y : RecV => y.1), hR6]
      have HR6 := Lib.hid hR6
      have OK6 := Lib.hid ok6
      have HL6 := Lib.hid hl6
      clear h1 hR6 ok6 hl6
      refine wp_region_seq [(0, true), (1, true), (2, true), (3, true), (4, true), (5, true), (6, true), (7, true), (8, false)] (fun x => x.cell? ⟨l + 1, 0, none⟩ = some (.pointer (some ⟨l, 0, none⟩)) ∧ x.cell? ⟨l, 3, none⟩ = some (.slice a7 R6.length c7)) (by kernel_rfl) (by kernel_rfl) (fun _ _ _ _ _ h => h) ?_
      simp only [pickOps, Array.getD_eq_getD_getElem?, List.getElem?_toArray, List.getElem?_cons_succ, List.getElem?_cons_zero, Option.getD_some]
      have h3 := h2.drew
      generalize W.drew = w6 at h3 ⊢
      clear h2
      repeat (first
        | (refine wpSeq_run (by rfl) ⟨h3.right.right.right.right.cell 0, h3.cell 3⟩ (fun K hK => ⟨?_, ?_, ?_⟩); rotate_left; (· (intro wS hSw; have d1 := hSw.1; have d2 := hSw.2; go_simp <;> with_reducible rfl)); simp only [Act.put, List.setIfInBounds_toArray, List.set_cons_zero, List.set_cons_succ]; refine hK _ ?_; clear hK K)
        | (refine wpSeq_skip (by rfl) ⟨h3.right.right.right.right.cell 0, h3.cell 3⟩ (fun K hK => ?_); simp only [Act.put, List.setIfInBounds_toArray, List.set_cons_zero, List.set_cons_succ]; refine hK _ ?_; clear hK K))
      have q4 := h3.cell 4
      have g4 := h3.free 4
      refine wpSeq_act (by rfl) (fun K hK => ?_)
      go_simp
      have h4 := h3.setCell 4 (.int .i64 R6.length)
      try dsimp only
      try simp only [Act.put, List.setIfInBounds_toArray, List.set_cons_zero, List.set_cons_succ]
      refine hK _ _ (_) ((fun _ h => h)) ⟨h4.right.right.right.right.cell 0, h4.cell 3⟩ ?_
      clear hK K
      generalize w6.setCell ⟨l, 4, none⟩ (.int .i64 R6.length) = w7 at h4 ⊢
      clear h3 q4 g4
      refine wpSeq_end ?_
      dsimp only
      have okW : OkW ⟨g, s, xs.map RecX.s, (xs.map RecX.s).length, behX xs, 0⟩ := ⟨hg, (by have := OK6.out.many; dsimp only at this; show (xs.map RecX.s).length ≤ _; omega), OK6.out.size, OK6.out.many, OK6.out.state, OK6.out.recs, OK6.out.broken0, OK6.out.broken1⟩
      have h5 : Sat u w7 (isL l p ⟨g, s, xs.map RecX.s, (xs.map RecX.s).length, behX xs, 0⟩ * (isD p d2 * (own (l + 1) (.cells #[.pointer (some ⟨l, 0, none⟩)] 28 (0, 0)) * (own D (.deferred (some [])) * F)))) := by
        rw [HL6.out] at h4
        have h6 := isL_mk (p := p) (W := ⟨g, s, xs.map RecX.s, (xs.map RecX.s).length, behX xs, 0⟩) (R := R6) okW HR6.out (by rw [HL6.out]; exact h4)
        exact h6.eq (by ac_rfl)
      clear h4 okW HL6 HR6 OK6
      obtain ⟨_, k0, k1, _, _, _, k5, _⟩ := isL_cells h5
      dsimp only at k1 k5
      have c1' : w7.cell? ⟨l + 1, 0, none⟩ = some (.pointer (some ⟨l, 0, none⟩)) := h5.right.right.cell 0
      have e1 := HR4.out
      by_cases hlt : behX xs < b.length
      · have hlt2 : (behX xs : Int) < (b.length : Int) := by omega
        rw [if_pos hlt] at e1
        have HE1 := Lib.hid e1
        clear e1 hlt HR4
        go_wp2_with fail
        refine wp_noPanic ?_
        refine wp_region_seq [(0, true), (1, true), (3, true), (4, true), (5, true), (6, true), (2, false), (7, false), (8, true)] (fun x => x.cell? ⟨l + 1, 0, none⟩ = some (.pointer (some ⟨l, 0, none⟩)) ∧ x.cell? ⟨l, 5, none⟩ = some (.int .i64 (behX xs))) (by kernel_rfl) (by kernel_rfl) (fun _ _ _ _ _ h => h) ?_
        simp only [pickOps, Array.getD_eq_getD_getElem?, List.getElem?_toArray, List.getElem?_cons_succ, List.getElem?_cons_zero, Option.getD_some]
        have h6 := h5.drew
        have k1' : w7.drew.cell? ⟨l, 1, none⟩ = some (.int .i64 g) := k1
        have hSS : w7.drew.cell? ⟨l + 1, 0, none⟩ = some (.pointer (some ⟨l, 0, none⟩)) ∧ w7.drew.cell? ⟨l, 5, none⟩ = some (.int .i64 (behX xs)) := ⟨c1', k5⟩
        generalize w7.drew = w8 at h6 k1' hSS ⊢
        clear h5 k0 k1 k5 c1'
        repeat (first
          | (refine wpSeq_run (by rfl) hSS (fun K hK => ⟨?_, ?_, ?_⟩); rotate_left; (· (intro wS hSw; have d1 := hSw.1; have d2 := hSw.2; go_simp <;> with_reducible rfl)); simp only [Act.put, List.setIfInBounds_toArray, List.set_cons_zero, List.set_cons_succ]; refine hK _ ?_; clear hK K)
          | (refine wpSeq_skip (by rfl) hSS (fun K hK => ?_); simp only [Act.put, List.setIfInBounds_toArray, List.set_cons_zero, List.set_cons_succ]; refine hK _ ?_; clear hK K))
        refine wpSeq_act (by rfl) (fun K hK => ?_)
        go_simp
        refine (lname_any w8 l g hg k1').mono ?_
        rintro e w9 ⟨rfl, rfl⟩
        try dsimp only
        try simp only [Act.put, List.setIfInBounds_toArray, List.set_cons_zero, List.set_cons_succ]
        refine hK _ _ (_) ((fun _ h => h)) hSS ?_
        clear hK K
        refine wpSeq_act (by rfl) (fun K hK => ?_)
        go_simp
        refine (dcut_any u w8 _ p d2 (nameW g) (behX xs) (by have := nameW_len g; omega) h6.s2).mono ?_
        rintro e w9 ⟨rfl, h7⟩
        have h7' := h7.s2
        obtain ⟨_, _, _, _, _, _, k5, _⟩ := isL_cells h7'
        try dsimp only
        try simp only [Act.put, List.setIfInBounds_toArray, List.set_cons_zero, List.set_cons_succ]
        refine hK _ _ (_) ((fun _ h => h)) ⟨h7'.right.right.cell 0, k5⟩ ?_
        clear hK K
        repeat (first
          | (refine wpSeq_run (by rfl) ⟨h7'.right.right.cell 0, k5⟩ (fun K hK => ⟨?_, ?_, ?_⟩); rotate_left; (· (intro wS hSw; go_simp <;> with_reducible rfl)); simp only [Act.put, List.setIfInBounds_toArray, List.set_cons_zero, List.set_cons_succ]; refine hK _ ?_; clear hK K)
          | (refine wpSeq_skip (by rfl) ⟨h7'.right.right.cell 0, k5⟩ (fun K hK => ?_); simp only [Act.put, List.setIfInBounds_toArray, List.set_cons_zero, List.set_cons_succ]; refine hK _ ?_; clear hK K))
        refine wpSeq_end ?_
        dsimp only
        clear h6 k1' hSS h7 k5
        have h7 := h7'
        clear h7'
        have e1 := HE1.out
        clear HE1
        generalize w9 = w8 at h7 ⊢
        obtain ⟨y, hy⟩ : ∃ y, driesD d2 (nameW g) (nameW g) (cutL (behX xs)) = y := ⟨_, rfl⟩
        rw [hy] at h7 e1 ⊢
        have hye : okErr y.1 := by rw [← hy]; exact dries_err _ _ _ _ (cut_err _)
        have HR5 := Lib.hid e1
        clear hy e1
        by_cases hy0 : y.1 = 0
        · have e := HR5.out
          rw [if_neg (by simp [hy0])] at e
          subst e
          rw [hy0]
          have q1 : w8.cell? ⟨l + 1, 0, none⟩ = some (.pointer (some ⟨l, 0, none⟩)) := h7.right.right.cell 0
          have q2 : w8.heap[D]? = some (.deferred (some [])) := h7.right.right.right.get
          have h8 : Sat u w8 (own D (.deferred (some [])) * (own (l + 1) (.cells #[.pointer (some ⟨l, 0, none⟩)] 28 (0, 0)) * (isL l p ⟨g, s, xs.map RecX.s, (xs.map RecX.s).length, behX xs, 0⟩ * (isD p y.2 * F)))) := h7.eq (by ac_rfl)
          have H9 := Lib.hid ((h8.putObj (.deferred none)).right.right)
          clear h7 h8 hy0 hye
          go_wp2_with fail
          refine postM_col q2 (fun x => results_tmp2 rfl _ _ _) ?_
          have HH := H9.out
          first
            | exact ⟨l, rfl, HH⟩
            | (rw [List.length_map] at HH; exact ⟨l, rfl, HH⟩)
        · have e := HR5.out
          rw [if_pos hy0] at e
          subst e
          have hyb : (y.1 != 0) = true := by simpa using hy0
          have q2 : w8.heap[D]? = some (.deferred (some [])) := h7.right.right.right.get
          have h8 : Sat u w8 (own D (.deferred (some [])) * (own (l + 1) (.cells #[.pointer (some ⟨l, 0, none⟩)] 28 (0, 0)) * (isL l p ⟨g, s, xs.map RecX.s, (xs.map RecX.s).length, behX xs, 0⟩ * (isD p y.2 * F)))) := h7.eq (by ac_rfl)
          have H9 := Lib.hid ((h8.putObj (.deferred none)).right.right.right)
          clear h7 h8 hy0 hye
          go_wp2_with fail
          exact postM_col q2 (fun x => results_tmp2 rfl _ _ _) ⟨rfl, H9.out⟩
      · have hlt2 : ¬ (behX xs : Int) < (b.length : Int) := by omega
        rw [if_neg hlt] at e1
        have HE1 := Lib.hid e1
        clear e1 hlt HR4
        go_wp2_with fail
        refine (lname_any w7 l g hg k1).mono ?_
        rintro e w9 ⟨rfl, rfl⟩
        dsimp only
        go_wp2_with fail
        refine (dsync_any u w7 _ p d2 (nameW g) (by have := nameW_len g; omega) h5.s2).mono ?_
        rintro e w8 ⟨rfl, h6⟩
        have h7 := h6.s2
        dsimp only
        clear h5 h6 k0 k1 k5 c1'
        have e1 := HE1.out
        clear HE1
        obtain ⟨y, hy⟩ : ∃ y, driesD d2 (nameW g) (nameW g) wholeL = y := ⟨_, rfl⟩
        rw [hy] at h7 e1 ⊢
        have hye : okErr y.1 := by rw [← hy]; exact dries_err _ _ _ _ whole_err
        have HR5 := Lib.hid e1
        clear hy e1
        by_cases hy0 : y.1 = 0
        · have e := HR5.out
          rw [if_neg (by simp [hy0])] at e
          subst e
          rw [hy0]
          have q1 : w8.cell? ⟨l + 1, 0, none⟩ = some (.pointer (some ⟨l, 0, none⟩)) := h7.right.right.cell 0
          have q2 : w8.heap[D]? = some (.deferred (some [])) := h7.right.right.right.get
          have h8 : Sat u w8 (own D (.deferred (some [])) * (own (l + 1) (.cells #[.pointer (some ⟨l, 0, none⟩)] 28 (0, 0)) * (isL l p ⟨g, s, xs.map RecX.s, (xs.map RecX.s).length, behX xs, 0⟩ * (isD p y.2 * F)))) := h7.eq (by ac_rfl)
          have H9 := Lib.hid ((h8.putObj (.deferred none)).right.right)
          clear h7 h8 hy0 hye
          go_wp2_with fail
          refine postM_col q2 (fun x => results_tmp2 rfl _ _ _) ?_
          have HH := H9.out
          first
            | exact ⟨l, rfl, HH⟩
            | (rw [List.length_map] at HH; exact ⟨l, rfl, HH⟩)
        · have e := HR5.out
          rw [if_pos hy0] at e
          subst e
          have hyb : (y.1 != 0) = true := by simpa using hy0
          have q2 : w8.heap[D]? = some (.deferred (some [])) := h7.right.right.right.get
          have h8 : Sat u w8 (own D (.deferred (some [])) * (own (l + 1) (.cells #[.pointer (some ⟨l, 0, none⟩)] 28 (0, 0)) * (isL l p ⟨g, s, xs.map RecX.s, (xs.map RecX.s).length, behX xs, 0⟩ * (isD p y.2 * F)))) := h7.eq (by ac_rfl)
          have H9 := Lib.hid ((h8.putObj (.deferred none)).right.right.right)
          clear h7 h8 hy0 hye
          go_wp2_with fail
          exact postM_col q2 (fun x => results_tmp2 rfl _ _ _) ⟨rfl, H9.out⟩
end Go.Proofs.YtlfmkiclaijokaaGreatDoor

namespace Go.Proofs.YtlfmkiclaijokaaGreatDoor
open Go.RowKit
set_option linter.unusedVariables false

/-- A call, with the slices that it bears. -/
structure CallV where
  kind : Nat
  name : ByteArray
  b : Bs
  vb : Value
  n : Int
  keep : List Int
  vk : Value

structure OkCall (x : CallV) : Prop where
  kind : x.kind < 256
  name : x.name.size ≤ 9223372036854775807
  n0 : -9223372036854775808 ≤ x.n
  n1 : x.n ≤ 9223372036854775807
  keep : ∀ k ∈ x.keep, -9223372036854775808 ≤ k ∧ k ≤ 9223372036854775807

/-- The slice at a has the calls cs. -/
structure CallsAt (w : World) (a : Option Addr) (n c : Nat) (cs : List CallV) : Prop where
  len : n = cs.length
  le : n ≤ c
  most : c ≤ 9223372036854775807
  ok : ∀ x ∈ cs, OkCall x
  bs : ∀ x ∈ cs, BytesAt w x.vb x.b
  ks : ∀ x ∈ cs, IntsAt w x.vk x.keep
  at_ : n = 0 ∨ ∃ b o, a = some ⟨b, o, none⟩ ∧ ∀ (j : Nat) (x : CallV), cs[j]? = some x →
    w.cell? ⟨b, o + j * 5, none⟩ = some (.int .u8 (x.kind : Nat)) ∧ w.cell? ⟨b, o + j * 5 + 1, none⟩ = some (.string x.name) ∧ w.cell? ⟨b, o + j * 5 + 2, none⟩ = some x.vb ∧
    w.cell? ⟨b, o + j * 5 + 3, none⟩ = some (.int .i64 x.n) ∧ w.cell? ⟨b, o + j * 5 + 4, none⟩ = some x.vk

theorem BytesAt.len {w : World} {v : Value} {xs : List UInt8} (h : BytesAt w v xs) : ∃ a c, v = .slice a xs.length c ∧ xs.length ≤ c ∧ c ≤ maxLen := by
  rcases h with ⟨rfl, hl, _⟩ | ⟨a, c, h1, h2, h3, _⟩
  · rw [hl]; exact ⟨none, 0, rfl, Nat.le_refl _, Nat.zero_le _⟩
  · exact ⟨_, c, h1, h2, h3⟩

theorem CallsAt.get {w : World} {a : Option Addr} {n c : Nat} {cs : List CallV} (h : CallsAt w a n c cs) {j : Nat} (hj : j < n) :
    ∃ b o x ab cb ak ck, a = some ⟨b, o, none⟩ ∧ cs[j]? = some x ∧ OkCall x ∧ x.vb = .slice ab x.b.length cb ∧ x.vk = .slice ak x.keep.length ck ∧ x.b.length ≤ 9223372036854775807 ∧ x.keep.length ≤ 9223372036854775807 ∧
      w.cell? ⟨b, o + j * 5, none⟩ = some (.int .u8 (x.kind : Nat)) ∧ w.cell? ⟨b, o + j * 5 + 1, none⟩ = some (.string x.name) ∧ w.cell? ⟨b, o + j * 5 + 2, none⟩ = some (.slice ab x.b.length cb) ∧
      w.cell? ⟨b, o + j * 5 + 3, none⟩ = some (.int .i64 x.n) ∧ w.cell? ⟨b, o + j * 5 + 4, none⟩ = some (.slice ak x.keep.length ck) := by
  have hl := h.len
  rcases h.at_ with h0 | ⟨b, o, rfl, hc⟩
  · omega
  have hx : cs[j]? = some cs[j] := by simp
  have hm : cs[j] ∈ cs := List.getElem_mem _
  obtain ⟨c0, c1, c2, c3, c4⟩ := hc j _ hx
  obtain ⟨ab, cb, e1, p1, p2⟩ := BytesAt.len (h.bs _ hm)
  obtain ⟨ak, ck, e2, q1, q2⟩ := RowAt.len (h.ks _ hm)
  have hmx : maxLen = 9223372036854775807 := rfl
  rw [e1] at c2
  rw [e2] at c4
  exact ⟨b, o, cs[j], ab, cb, ak, ck, rfl, hx, h.ok _ hm, e1, e2, by omega, by omega, c0, c1, c2, c3, c4⟩

/-- How much a call bears, and calls. -/
def callBulk (x : CallV) : Nat := x.b.length + x.keep.length + x.name.size
def tot (cs : List CallV) : Nat := (cs.map callBulk).sum

theorem tot_snoc (cs : List CallV) (j : Nat) (x : CallV) (h : cs[j]? = some x) : tot (cs.take (j + 1)) = tot (cs.take j) + callBulk x := by
  obtain ⟨hj, rfl⟩ := List.getElem?_eq_some_iff.1 h
  unfold tot
  rw [List.take_succ_eq_append_getElem hj, List.map_append, List.sum_append]
  simp

/-- What large says. -/
def Judged (u : World) (F : HProp) (cs : List CallV) (e : Ending) (w' : World) : Prop := ∃ r : Bool, e = .returned (.bool r) ∧ (r = false → cs.length ≤ 60 ∧ tot cs ≤ 6000) ∧ Sat u w' F

section
variable (u w : World) (F : HProp) (a : Option Addr) (n c : Nat) (cs : List CallV)

set_option maxHeartbeats 2000000 in
theorem large_any (hA : ∀ w', Sat u w' F → CallsAt w' a n c cs) (hs : Sat u w F) :
    Calls Tryz.prog 5 #[.slice a n c] w (Judged u F cs) := by
  have hl := (hA w hs).len
  have hn : n ≤ 9223372036854775807 := Nat.le_trans (hA w hs).le (hA w hs).most
  have HA := Lib.hid hA
  have HL := Lib.hid hl
  clear hA hl
  go_enter Tryz.func5, Tryz.ntmps5
  by_cases h60 : n ≤ 60
  · go_wp2_with fail
    go_loopw [3, 4] (fun t i wr => ∃ j : Nat, j ≤ n ∧ i = .int .i64 j ∧ t = .int .i64 (tot (cs.take j) : Nat) ∧ tot (cs.take j) ≤ 24000 ∧ Sat u wr F) (fun _ i _ => n - (intOf i).toNat)
    case atStart => exact ⟨0, Nat.zero_le _, rfl, rfl, by simp [tot], hs⟩
    case round =>
      obtain ⟨j, hj, rfl, rfl, htot, h2⟩ := hrel
      by_cases hlt : j < n
      · obtain ⟨b, o, x, ab, cb, ak, ck, rfl, hx, ok, _, _, hbl, hkl, c0, c1, c2, c3, c4⟩ := (HA.out wr h2).get hlt
        have HS := Lib.hid (tot_snoc cs j x hx)
        have hnl := ok.name
        have y1 : (j : Int) < n := by omega
        clear ok
        generalize hD : tot (cs.take j) = D at HS htot ⊢
        have HD := Lib.hid hD
        clear hD hx
        have HK := Lib.hid (show tot (cs.take (j + 1)) = D + x.b.length + x.keep.length + x.name.size by have := HS.out; unfold callBulk at this; omega)
        have HX := Lib.hid (show tot (cs.take (j + 1)) ≤ tot cs by
          conv => rhs; rw [← List.take_append_drop (j + 1) cs]
          simp only [tot, List.map_append, List.sum_append]
          omega)
        clear HS HD
        by_cases g1 : 6000 - (D : Int) < x.b.length
        · go_wp2_with fail
          go_ret
          exact ⟨true, rfl, fun h => (by cases h), h2⟩
        by_cases g2 : 6000 - (D : Int) < x.keep.length
        · go_wp2_with fail
          go_ret
          exact ⟨true, rfl, fun h => (by cases h), h2⟩
        by_cases g3 : 6000 - (D : Int) < x.name.size
        · go_wp2_with fail
          go_ret
          exact ⟨true, rfl, fun h => (by cases h), h2⟩
        go_wp2_with fail
        refine wp_region_seq [(0, true), (1, true), (2, true), (3, true), (4, true), (5, true), (6, true), (7, true), (8, true), (9, true), (10, true), (11, true), (12, true), (13, true), (14, true), (15, true), (16, true), (17, true), (18, true), (19, true), (20, true), (21, true), (22, true)] (fun wS => wS.cell? ⟨b, o + j * 5 + 1, none⟩ = some (.string x.name) ∧ wS.cell? ⟨b, o + j * 5 + 2, none⟩ = some (.slice ab x.b.length cb) ∧ wS.cell? ⟨b, o + j * 5 + 4, none⟩ = some (.slice ak x.keep.length ck) ∧ Sat u wS F) (by kernel_rfl) (by kernel_rfl) (fun _ _ _ _ _ h => h) ?_
        simp only [pickOps, Array.getD_eq_getD_getElem?, List.getElem?_toArray, List.getElem?_cons_succ, List.getElem?_cons_zero, Option.getD_some]
        repeat (first
          | (refine wpSeq_run (by rfl) ⟨c1, c2, c4, h2.drew⟩ (fun K hK => ⟨?_, ?_, ?_⟩); rotate_left; (· (intro wS hSw; have q1 := hSw.1; have q2 := hSw.2.1; have q4 := hSw.2.2.1; go_simp <;> with_reducible rfl)); simp only [Act.put, List.setIfInBounds_toArray, List.set_cons_zero, List.set_cons_succ]; refine hK _ ?_; clear hK K)
          | (refine wpSeq_skip (by rfl) ⟨c1, c2, c4, h2.drew⟩ (fun K hK => ?_); simp only [Act.put, List.setIfInBounds_toArray, List.set_cons_zero, List.set_cons_succ]; refine hK _ ?_; clear hK K))
        refine wpSeq_end ?_
        have e6 : IntKind.i64.wrap (IntKind.i64.wrap (IntKind.i64.wrap ((D : Int) + (x.b.length : Int)) + (x.keep.length : Int)) + (x.name.size : Int)) = ((tot (cs.take (j + 1)) : Nat) : Int) := by
          rw [HK.out, IntWalk.i64_in _ (by omega : -9223372036854775808 ≤ (D : Int) + (x.b.length : Int) ∧ (D : Int) + (x.b.length : Int) ≤ 9223372036854775807), IntWalk.i64_in _ (by omega : -9223372036854775808 ≤ (D : Int) + (x.b.length : Int) + (x.keep.length : Int) ∧ (D : Int) + (x.b.length : Int) + (x.keep.length : Int) ≤ 9223372036854775807), IntWalk.i64_in _ (by omega)]
          omega
        rw [e6]
        have h3 := h2.drew
        generalize wr.drew = w3 at h3 ⊢
        have hb := HK.out
        clear e6 c0 c1 c2 c3 c4
        generalize hD2 : tot (cs.take (j + 1)) = D2 at HX hb ⊢
        have HD2 := Lib.hid hD2
        clear hD2
        go_wp2_with fail
        go_roundw
        case rel => exact ⟨j + 1, by omega, by go_num, by rw [HD2.out], by rw [HD2.out]; omega, h3⟩
        case measure => simp [intOf]; omega
      · have e : j = n := by omega
        subst e
        have ht : cs.take j = cs := List.take_of_length_le (by rw [HL.out]; exact Nat.le_refl _)
        rw [ht] at htot ⊢
        clear ht
        generalize hD : tot cs = D at htot ⊢
        have HD := Lib.hid hD
        clear hD
        go_wp2_with fail
        go_ret
        exact ⟨_, rfl, fun h => ⟨by rw [← HL.out]; exact h60, by simp at h; rw [HD.out]; omega⟩, h2⟩
  · have g : (60 : Int) < n := by omega
    go_wp2_with fail
    go_ret
    exact ⟨true, rfl, fun h => (by cases h), hs⟩
end
end Go.Proofs.YtlfmkiclaijokaaGreatDoor
