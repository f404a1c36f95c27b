/- The document's disk in memory: small calls, look, others. look, others. -/
import Derived.Test.YtlfmkiclaijokaaGreatDoorMk17
import Derived.Test.YtlfmkiclaijokaaGreatDoorMk11
import Derived.Test.YtlfmkiclaijokaaGreatDoorMk1
import Derived.Laws.BitsAllLaws
import Derived.Laws.ResultCell
namespace Go.Proofs.YtlfmkiclaijokaaGreatDoor
open Go.RowKit
set_option linter.unusedVariables false

def cellsK (f : FileP) : List Value := [.string (str f.name), .string (str f.dry), .string (str f.wet), .bool f.born]
theorem cellsK_len (f : FileP) : (cellsK f).length = 4 := rfl

/-- A row of kept files. -/
def ownK (v : Value) (L : List FileP) : HProp := ownRow 134 4 v L.length (L.flatMap cellsK)

/-- What holds of every such disk. -/
structure OkR (d : DiskP) : Prop where
  ok : OkD d
  born : BornF d.files

def headR (v : Value) (d : DiskP) : Obj := .cells #[v, .int .i64 d.quota, .int .i64 d.steps, .int .i64 d.set, .bool d.off] 121 (0, 0)

/-- The document's disk at p: its files stand in any order. -/
def isM (p : Nat) (d : DiskP) : HProp := fact (OkR d) * ex fun x : Value × List FileP => fact (x.2.Perm d.files) * (own p (headR x.1 d) * ownK x.1 x.2)

section
variable {u w : World} {F : HProp} {p : Nat} {d : DiskP}
theorem isM_iff : Sat u w (isM p d * F) ↔ OkR d ∧ ∃ v L, L.Perm d.files ∧ Sat u w (own p (headR v d) * (ownK v L * F)) := by
  unfold isM
  constructor
  · intro h
    obtain ⟨h1, h2⟩ := Sat.fact_iff.1 h.as
    obtain ⟨⟨v, L⟩, hv⟩ := Sat.ex_iff.1 h2
    obtain ⟨h3, h4⟩ := Sat.fact_iff.1 hv.as
    exact ⟨h1, v, L, h3, h4.as⟩
  · rintro ⟨h1, v, L, h3, hv⟩
    exact (Sat.fact_iff.2 ⟨h1, Sat.ex_iff.2 ⟨(v, L), (Sat.fact_iff.2 ⟨h3, hv.sa⟩).sa⟩⟩).sa

/-- The cells of one. -/
theorem Sat.kept {a : Option Addr} {m c : Nat} {L : List FileP} {k : Nat} {x : FileP} (h : Sat u w (ownK (.slice a m c) L * F)) (hx : L[k]? = some x) :
    ∃ g, a = some ⟨g, 0, none⟩ ∧ ∀ w', Sat u w' (ownK (.slice a m c) L * F) → w'.cell? ⟨g, k * 4, none⟩ = some (.string (str x.name)) ∧ w'.cell? ⟨g, k * 4 + 1, none⟩ = some (.string (str x.dry)) ∧ w'.cell? ⟨g, k * 4 + 2, none⟩ = some (.string (str x.wet)) ∧ w'.cell? ⟨g, k * 4 + 3, none⟩ = some (.bool x.born) := by
  obtain ⟨g, e, hc⟩ := Sat.rowc_at cellsK 4 cellsK_len h hx
  exact ⟨g, e, fun w' h' => ⟨hc w' h' 0 (by decide), hc w' h' 1 (by decide), hc w' h' 2 (by decide), hc w' h' 3 (by decide)⟩⟩

theorem Sat.klen {a : Option Addr} {m c : Nat} {L : List FileP} (h : Sat u w (ownK (.slice a m c) L * F)) : m = L.length ∧ m ≤ c ∧ c ≤ maxLen := RowAt.cap (Sat.row_at h)
end

theorem okR_crash {d : DiskP} (h : OkR d) : OkR (crashD d) := ⟨okD_crash h.1, h.2⟩
theorem okR_step {d : DiskP} (h : OkR d) : OkR (stepD d) := ⟨okD_step h.1, by rw [stepD_files]; exact h.2⟩
theorem okR_fail {d : DiskP} (h : OkR d) (n : Int) (hn : n ≤ 9223372036854775807) : OkR (failD d n) := ⟨okD_fail h.1 n hn, h.2⟩
theorem okR_new (q : Int) (hq : q ≤ 9223372036854775807) : OkR (newD q) := ⟨okD_new q hq, fun f hf => by cases hf⟩

set_option maxHeartbeats 400000 in
theorem rnew_any (u w : World) (F : HProp) (q : Int) (h0 : -9223372036854775808 ≤ q) (h1 : q ≤ 9223372036854775807) (hs : Sat u w F) :
    Calls Tryz.prog 54 #[.int .i64 q] w fun e w' => ∃ p, e = .returned (.pointer (some ⟨p, 0, none⟩)) ∧ Sat u w' (isM p (newD q) * F) := by
  have h2 : Sat u (w.alloc (headR (.slice none 0 0) (newD q))) (isM w.heap.size (newD q) * F) := isM_iff.2 ⟨okR_new q h1, .slice none 0 0, [], List.Perm.refl _, (Sat.row_nil hs).alloc (headR (.slice none 0 0) (newD q))⟩
  go_enter Tryz.func54, Tryz.ntmps54
  go_wp2
  go_ret
  exact ⟨_, rfl, h2⟩

set_option maxHeartbeats 400000 in
theorem rfail_any (u w : World) (F : HProp) (p : Nat) (d : DiskP) (n : Int) (h0 : -9223372036854775808 ≤ n) (h1 : n ≤ 9223372036854775807) (hs : Sat u w (isM p d * F)) :
    Calls Tryz.prog 58 #[.pointer (some ⟨p, 0, none⟩), .int .i64 n] w fun e w' => e = .returned (.tuple #[]) ∧ Sat u w' (isM p (failD d n) * F) := by
  obtain ⟨ok, v, L, hL, h2⟩ := isM_iff.1 hs
  have c3 := h2.cell 3
  have f3 := h2.free 3
  have h3 := h2.setCell 3 (.int .i64 (max (-1) n))
  have h4 : Sat u (w.setCell ⟨p, 3, none⟩ (.int .i64 (max (-1) n))) (isM p (failD d n) * F) := isM_iff.2 ⟨okR_fail ok n h1, v, L, hL, h3⟩
  clear hs h2 h3 h0 hL
  go_enter Tryz.func58, Tryz.ntmps58
  go_wp2
  go_end0
  exact ⟨rfl, h4⟩

set_option maxHeartbeats 400000 in
theorem rcrash_any (u w : World) (F : HProp) (p : Nat) (d : DiskP) (hs : Sat u w (isM p d * F)) :
    Calls Tryz.prog 60 #[.pointer (some ⟨p, 0, none⟩)] w fun e w' => e = .returned (.tuple #[]) ∧ Sat u w' (isM p (crashD d) * F) := by
  obtain ⟨ok, v, L, hL, h2⟩ := isM_iff.1 hs
  have c4 := h2.cell 4
  have f4 := h2.free 4
  have h3 := h2.setCell 4 (.bool true)
  have c3 := h3.cell 3
  have f3 := h3.free 3
  have h4 := h3.setCell 3 (.int .i64 (-1))
  have h5 : Sat u ((w.setCell ⟨p, 4, none⟩ (.bool true)).setCell ⟨p, 3, none⟩ (.int .i64 (-1))) (isM p (crashD d) * F) := isM_iff.2 ⟨okR_crash ok, v, L, hL, h4⟩
  clear hs h2 h3 h4 hL
  go_enter Tryz.func60, Tryz.ntmps60
  go_wp2
  go_end0
  exact ⟨rfl, h5⟩

set_option maxHeartbeats 800000 in
theorem rstep_any (u w : World) (F : HProp) (p : Nat) (d : DiskP) (hs : Sat u w (isM p d * F)) :
    Calls Tryz.prog 107 #[.pointer (some ⟨p, 0, none⟩)] w fun e w' => e = .returned (.bool (stepOk d)) ∧ Sat u w' (isM p (stepD d) * F) := by
  obtain ⟨ok, v, L, hL, h2⟩ := isM_iff.1 hs
  have c2 := h2.cell 2
  have f2 := h2.free 2
  have hw := inc64_wrap d.steps
  have h3 := h2.setCell 2 (.int .i64 (inc64 d.steps))
  have ok3 : OkR { d with steps := inc64 d.steps } := ⟨⟨ok.1.sorted, ok.1.set0, ok.1.set1, ok.1.quota0, ok.1.quota1, (inc64_in _).1, (inc64_in _).2, ok.1.size, ok.1.used, ok.1.many⟩, ok.2⟩
  have h4 : Sat u (w.setCell ⟨p, 2, none⟩ (.int .i64 (inc64 d.steps))) (isM p { d with steps := inc64 d.steps } * F) := isM_iff.2 ⟨ok3, v, L, hL, h3⟩
  have c3 := h3.cell 3
  have f3 := h3.free 3
  have s0 := ok.1.set0
  have s1 := ok.1.set1
  have OKS := Lib.hid (okR_step ok)
  have HL := Lib.hid hL
  clear hs h2 ok ok3 hL
  by_cases h0 : d.set = 0
  · have e1 : stepOk d = false := by unfold stepOk; simp [h0]
    have e2 : stepD d = crashD { d with steps := inc64 d.steps } := by unfold stepD; rw [if_pos h0]
    rw [e1, e2]
    clear e1 e2 h3
    go_enter Tryz.func107, Tryz.ntmps107
    go_wp2_with fail
    refine (rcrash_any u _ _ p _ h4).mono ?_
    rintro e w1 ⟨rfl, h5⟩
    dsimp only
    clear c2 f2 c3 f3 h4
    go_wp2
    go_ret
    exact ⟨rfl, h5⟩
  · have e1 : stepOk d = true := by unfold stepOk; simp [h0]
    have e2 : stepD d = { d with steps := inc64 d.steps, set := max (-1) (d.set - 1) } := by unfold stepD; rw [if_neg h0]
    have h5 := h3.setCell 3 (.int .i64 (max (-1) (d.set - 1)))
    rw [e2] at OKS
    have h6 : Sat u ((w.setCell ⟨p, 2, none⟩ (.int .i64 (inc64 d.steps))).setCell ⟨p, 3, none⟩ (.int .i64 (max (-1) (d.set - 1)))) (isM p { d with steps := inc64 d.steps, set := max (-1) (d.set - 1) } * F) := isM_iff.2 ⟨OKS.out, v, L, HL.out, h5⟩
    rw [e1, e2]
    clear e1 e2 h3 h4 h5 OKS
    have d0 : (d.set == 0) = false := by simpa using h0
    go_enter Tryz.func107, Tryz.ntmps107
    go_wp2
    go_ret
    exact ⟨rfl, h6⟩

theorem rnone_any (u w : World) (F : HProp) (n : Bs) (hl : n.length ≤ 9223372036854775807) :
    Calls Tryz.prog 126 #[.string (str n)] w fun e w' => e = .returned (.bool (badName n)) ∧ w = w' := by
  have hsz : (str n).size = n.length := str_size n
  have he : n.isEmpty = decide (n.length = 0) := by cases n <;> simp
  unfold badName
  rw [he]
  clear he
  generalize str n = s at hsz ⊢
  generalize n.length = m at hsz hl ⊢
  subst hsz
  by_cases h0 : s.size = 0
  · go_enter Tryz.func126, Tryz.ntmps126
    go_wp2
    go_ret
    exact ⟨by simp [h0], rfl⟩
  · have y0 : ¬ ((s.size : Int) = 0) := by omega
    go_enter Tryz.func126, Tryz.ntmps126
    go_wp2
    go_ret
    refine ⟨?_, rfl⟩
    have e1 : ((s.size : Int) == 0) = false := by simpa using y0
    have e2 : decide ((128 : Int) < s.size) = decide (128 < s.size) := by
      by_cases h : 128 < s.size
      · rw [decide_eq_true h, decide_eq_true (by omega)]
      · rw [decide_eq_false h, decide_eq_false (by omega)]
    rw [e1, e2, decide_eq_false h0]
    rfl
end Go.Proofs.YtlfmkiclaijokaaGreatDoor

namespace Go.Proofs.YtlfmkiclaijokaaGreatDoor
open Go.RowKit
set_option linter.unusedVariables false

theorem str_beq (a b : Bs) : ((str a).toList == (str b).toList) = decide (a = b) := by
  rw [str_toList, str_toList]
  by_cases e : a = b <;> simp [e]

def keptV (f : FileP) : Value := .agg #[.string (str f.name), .string (str f.dry), .string (str f.wet), .bool f.born]

theorem Sat.store4 {u w : World} {F : HProp} {q : Nat} {t : TypeId} {a b c d a' b' c' d' : Value} (h : Sat u w (own q (.cells #[a, b, c, d] t (0, 0)) * F)) :
    Sat u ((((w.setCell ⟨q, 0, none⟩ a').setCell ⟨q, 1, none⟩ b').setCell ⟨q, 2, none⟩ c').setCell ⟨q, 3, none⟩ d') (own q (.cells #[a', b', c', d'] t (0, 0)) * F) :=
  (((h.setCell 0 a').setCell 1 b').setCell 2 c').setCell 3 d'

/-- What look answers. -/
def Looked (u : World) (F : HProp) (p : Nat) (d : DiskP) (n : Bs) (e : Ending) (w' : World) : Prop :=
  e = .returned (.tuple #[keptV (fileOf d n), .bool (hasN d.files n)]) ∧ Sat u w' (isM p d * F)

set_option maxHeartbeats 2000000 in
theorem rlook_any (u w : World) (F : HProp) (p : Nat) (d : DiskP) (n : Bs) (hs : Sat u w (isM p d * F)) :
    Calls Tryz.prog 105 #[.pointer (some ⟨p, 0, none⟩), .string (str n)] w (Looked u F p d n) := by
  obtain ⟨ok, v, L, hL, h2⟩ := isM_iff.1 hs
  obtain ⟨a, c, rfl, hc1, hc2⟩ := h2.right.row_at.len
  have hmany : L.length ≤ 1000000 := by rw [hL.length_eq]; exact ok.1.many
  have hlook : ∀ x ∈ L, x.name = n → getF d.files n = some x := fun x hx e => by
    rw [← getF_perm hL ok.1.sorted n, ← e]
    exact getF_mem (nodup_perm hL ok.1.sorted) hx
  have hnone : getF L n = none → getF d.files n = none := fun h => by rw [← getF_perm hL ok.1.sorted n]; exact h
  have OK := Lib.hid ok
  have HL := Lib.hid hL
  have HK := Lib.hid hlook
  have HN := Lib.hid hnone
  clear ok hL hlook hs hnone
  have h3 := (h2.alloc (.cells #[.string ⟨#[]⟩, .string ⟨#[]⟩, .string ⟨#[]⟩, .bool false] 134)).s2
  have c0 := h3.cell 0
  go_enter Tryz.func105, Tryz.ntmps105
  go_wp2_with fail
  generalize hq : w.heap.size = q at h3 c0 ⊢
  generalize w.alloc (.cells #[.string ⟨#[]⟩, .string ⟨#[]⟩, .string ⟨#[]⟩, .bool false] 134) = w1 at h3 c0 ⊢
  clear hq h2
  go_loopw [6] (fun t6 wr => wr = w1 ∧ ∃ j : Nat, j ≤ L.length ∧ t6 = .int .i64 ((j : Int) - 1) ∧ getF (L.drop j) n = none) (fun t6 _ => (intOf t6 + 1).toNat)
  case atStart => exact ⟨rfl, L.length, Nat.le_refl _, by go_num, by rw [List.drop_length]; rfl⟩
  case round =>
    obtain ⟨rfl, j, hj, rfl, hn⟩ := hrel
    have HD := Lib.hid hn
    clear hn
    by_cases h0 : j = 0
    · subst h0
      have hf := HN.out HD.out
      have e1 : fileOf d n = ⟨n, [], [], false⟩ := by unfold fileOf; rw [hf]; rfl
      have e2 : hasN d.files n = false := by unfold hasN; rw [hf]; rfl
      have E1 := Lib.hid e1
      have E2 := Lib.hid e2
      clear hf e1 e2 c0
      have h4 := h3.s2
      have c0 := h4.cell 0
      have c1 := h4.cell 1
      have c2 := h4.cell 2
      have c3 := h4.cell 3
      have f0 := h4.free 0
      have f1 := h4.free 1
      have f2 := h4.free 2
      have f3 := h4.free 3
      have c9 := h3.cell 0
      have h5 := h4.store4 (a' := .string (str n)) (b' := .string ⟨#[]⟩) (c' := .string ⟨#[]⟩) (d' := .bool false)
      rw [show (((0 : Nat) : Int) - 1) = -1 from rfl]
      go_wp2_with fail
      generalize ((((wr.setCell ⟨q, 0, none⟩ (.string (str n))).setCell ⟨q, 1, none⟩ (.string ⟨#[]⟩)).setCell ⟨q, 2, none⟩ (.string ⟨#[]⟩)).setCell ⟨q, 3, none⟩ (.bool false)) = w2 at h5 ⊢
      clear c0 c1 c2 c3 f0 f1 f2 f3 c9
      have c0 := h5.cell 0
      have c1 := h5.cell 1
      have c2 := h5.cell 2
      have c3 := h5.cell 3
      refine bodyPost_ret (v := .tuple #[.agg #[.string (str n), .string ⟨#[]⟩, .string ⟨#[]⟩, .bool false], .bool false]) (by rw [results_cell_tmp rfl]; go_simp) rfl ?_
      exact ⟨by rw [E1.out, E2.out]; rfl, isM_iff.2 ⟨OK.out, _, L, HL.out, h5.right⟩⟩
    · obtain ⟨x, hx⟩ : ∃ x, L[j - 1]? = some x := ⟨L[j - 1]'(by omega), List.getElem?_eq_getElem _⟩
      obtain ⟨g, rfl, hcells⟩ := Sat.kept (h3.eq (show _ = _ * (own p _ * (own q _ * F)) by ac_rfl)) hx
      obtain ⟨d0, d1, d2, d3⟩ := hcells wr (h3.eq (by ac_rfl))
      have e1 : ((j : Int) - 1) = ((j - 1 : Nat) : Int) := by omega
      rw [e1]
      clear e1 hcells
      have HX := Lib.hid hx
      clear hx
      generalize hk : j - 1 = k at HX d0 d1 d2 d3 ⊢
      have HJ := Lib.hid (show k + 1 = j by omega)
      have hkl : k < L.length := by omega
      have y1 : (k : Int) < L.length := by omega
      have y2 : ¬ (k : Int) < 0 := by omega
      have hk63 : k ≤ 1000000 := by omega
      clear hk h0 hj
      have HB := Lib.hid (str_beq x.name n)
      by_cases e : x.name = n
      · have hb : ((str x.name).toList == (str n).toList) = true := by rw [str_beq]; simp [e]
        have hf := HK.out x (List.mem_of_getElem? HX.out) e
        have e1 : fileOf d n = x := by unfold fileOf; rw [hf]; rfl
        have e2 : hasN d.files n = true := by unfold hasN; rw [hf]; rfl
        have E1 := Lib.hid e1
        have E2 := Lib.hid e2
        clear hf e1 e2 e c0
        have h4 := h3.s2
        have c0 := h4.cell 0
        have c1 := h4.cell 1
        have c2 := h4.cell 2
        have c3 := h4.cell 3
        have f0 := h4.free 0
        have f1 := h4.free 1
        have f2 := h4.free 2
        have f3 := h4.free 3
        have c9 := h3.cell 0
        have h5 := h4.store4 (a' := .string (str x.name)) (b' := .string (str x.dry)) (c' := .string (str x.wet)) (d' := .bool x.born)
        go_wp2_with fail
        generalize ((((wr.setCell ⟨q, 0, none⟩ (.string (str x.name))).setCell ⟨q, 1, none⟩ (.string (str x.dry))).setCell ⟨q, 2, none⟩ (.string (str x.wet))).setCell ⟨q, 3, none⟩ (.bool x.born)) = w2 at h5 ⊢
        clear c0 c1 c2 c3 f0 f1 f2 f3 c9 d0 d1 d2 d3
        have c0 := h5.cell 0
        have c1 := h5.cell 1
        have c2 := h5.cell 2
        have c3 := h5.cell 3
        refine bodyPost_ret (v := .tuple #[.agg #[.string (str x.name), .string (str x.dry), .string (str x.wet), .bool x.born], .bool true]) (by rw [results_cell_tmp rfl]; go_simp) rfl ?_
        exact ⟨by rw [E1.out, E2.out]; rfl, isM_iff.2 ⟨OK.out, _, L, HL.out, h5.right⟩⟩
      · have hb : ((str x.name).toList == (str n).toList) = false := by rw [str_beq]; simp [e]
        have E := Lib.hid e
        clear e
        go_wp2_with fail
        go_roundw
        case rel =>
          refine ⟨trivial, k, by omega, rfl, ?_⟩
          have hd : L.drop k = x :: L.drop (k + 1) := by
            obtain ⟨hk, rfl⟩ := List.getElem?_eq_some_iff.1 HX.out
            exact List.drop_eq_getElem_cons hk
          have hj := HD.out
          rw [hd, getF_cons, if_neg E.out]
          rw [HJ.out]
          exact hj
        case measure => simp [intOf]
end Go.Proofs.YtlfmkiclaijokaaGreatDoor
