/- The program's disk in memory; its small calls. Disks: what putting and taking away does to sizes; the invariant of all disks. Plain laws but for OkD. A disk that comes on: plain laws. No program in sight. -/
import Derived.Test.YtlfmkiclaijokaaGreatDoorMk3
import Derived.Test.YtlfmkiclaijokaaGreatDoorMk2
import Derived.Test.YtlfmkiclaijokaaGreatDoorMk7
import Derived.WalkLawsBesides
namespace Go.Proofs.YtlfmkiclaijokaaGreatDoor
open Go.RowKit
set_option linter.unusedVariables false

/-- A file as it lies: its bytes are shared rows. -/
abbrev FileV : Type := FileP × Value × Value

def cellsV (x : FileV) : List Value := [.string (str x.1.name), x.2.1, x.2.2, .bool x.1.born]
def cellsL (L : List FileV) : List Value := L.flatMap cellsV
def roL : List FileV → HProp
  | [] => fact True
  | x :: L => roB x.2.1 x.1.dry * (roB x.2.2 x.1.wet * roL L)

/-- The row of files at v. -/
def isFiles (v : Value) (fs : List FileP) : HProp := ex fun L : List FileV => fact (L.map (·.1) = fs) * (ownRow 75 4 v L.length (cellsL L) * roL L)

/-- What holds of every disk. -/
structure OkD (d : DiskP) : Prop where
  sorted : SortedF d.files
  set0 : -1 ≤ d.set
  set1 : d.set ≤ 9223372036854775807
  quota0 : 0 ≤ d.quota
  quota1 : d.quota ≤ 9223372036854775807
  steps0 : -9223372036854775808 ≤ d.steps
  steps1 : d.steps ≤ 9223372036854775807
  size : ∀ f ∈ d.files, f.size ≤ 8388608
  used : (usedF d.files : Int) ≤ d.quota
  many : d.files.length ≤ 1000000

def headD (v : Value) (d : DiskP) : Obj := .cells #[v, .int .i64 d.quota, .int .i64 d.steps, .int .i64 d.set, .bool d.off] 54 (0, 0)

/-- The disk d at p. -/
def isD (p : Nat) (d : DiskP) : HProp := fact (OkD d) * ex fun v => own p (headD v d) * isFiles v d.files

section
variable {u w : World} {F : HProp} {p : Nat} {d : DiskP}

theorem isD_iff : Sat u w (isD p d * F) ↔ OkD d ∧ ∃ v, Sat u w (own p (headD v d) * (isFiles v d.files * F)) := by
  unfold isD
  constructor
  · intro h
    obtain ⟨h1, h2⟩ := Sat.fact_iff.1 h.as
    obtain ⟨v, hv⟩ := Sat.ex_iff.1 h2
    exact ⟨h1, v, hv.as⟩
  · rintro ⟨h1, v, hv⟩
    exact (Sat.fact_iff.2 ⟨h1, Sat.ex_iff.2 ⟨v, hv.sa⟩⟩).sa

theorem isFiles_iff {v : Value} {fs : List FileP} : Sat u w (isFiles v fs * F) ↔ ∃ L : List FileV, L.map (·.1) = fs ∧ Sat u w (ownRow 75 4 v L.length (cellsL L) * (roL L * F)) := by
  unfold isFiles
  constructor
  · intro h
    obtain ⟨L, hL⟩ := Sat.ex_iff.1 h
    obtain ⟨h1, h2⟩ := Sat.fact_iff.1 hL.as
    exact ⟨L, h1, h2.as⟩
  · rintro ⟨L, h1, h2⟩
    exact Sat.ex_iff.2 ⟨L, (Sat.fact_iff.2 ⟨h1, h2.sa⟩).sa⟩

theorem isFiles_nil (h : Sat u w F) : Sat u w (isFiles (.slice none 0 0) [] * F) :=
  isFiles_iff.2 ⟨[], rfl, Sat.row_nil (Sat.fact_iff.2 ⟨trivial, h⟩)⟩
end

theorem okD_crash {d : DiskP} (h : OkD d) : OkD (crashD d) :=
  ⟨h.sorted, Int.le_refl _, by show (-1 : Int) ≤ _; omega, h.quota0, h.quota1, h.steps0, h.steps1, h.size, h.used, h.many⟩

theorem inc64_in (n : Int) : -9223372036854775808 ≤ inc64 n ∧ inc64 n ≤ 9223372036854775807 := by unfold inc64; omega
theorem inc64_wrap (n : Int) : IntKind.i64.wrap (n + 1) = inc64 n := by
  rw [IntKind.wrap_i64]
  unfold inc64
  rfl

theorem okD_step {d : DiskP} (h : OkD d) : OkD (stepD d) := by
  have h1 : OkD { d with steps := inc64 d.steps } := ⟨h.sorted, h.set0, h.set1, h.quota0, h.quota1, (inc64_in _).1, (inc64_in _).2, h.size, h.used, h.many⟩
  unfold stepD
  split
  · exact okD_crash h1
  · exact ⟨h.sorted, by show -1 ≤ max (-1) (d.set - 1); omega, by show max (-1) (d.set - 1) ≤ _; have := h.set1; omega, h.quota0, h.quota1, (inc64_in _).1, (inc64_in _).2, h.size, h.used, h.many⟩

theorem okD_fail {d : DiskP} (h : OkD d) (n : Int) (hn : n ≤ 9223372036854775807) : OkD (failD d n) :=
  ⟨h.sorted, by show -1 ≤ max (-1) n; omega, by show max (-1) n ≤ _; omega, h.quota0, h.quota1, h.steps0, h.steps1, h.size, h.used, h.many⟩

theorem okD_new (q : Int) (hq : q ≤ 9223372036854775807) : OkD (newD q) :=
  ⟨List.Pairwise.nil, Int.le_refl _, by show (-1 : Int) ≤ _; omega, by show 0 ≤ max 0 q; omega, by show max 0 q ≤ _; omega, by show _ ≤ (0 : Int); omega, by show (0 : Int) ≤ _; omega, (fun f hf => by cases hf), by show (0 : Int) ≤ max 0 q; omega, by show 0 ≤ _; omega⟩

set_option maxHeartbeats 400000 in
theorem dnew_any (u w : World) (F : HProp) (q : Int) (h0 : -9223372036854775808 ≤ q) (h1 : q ≤ 9223372036854775807) (hs : Sat u w F) :
    Calls Tryz.prog 7 #[.int .i64 q] w fun e w' => ∃ p, e = .returned (.pointer (some ⟨p, 0, none⟩)) ∧ Sat u w' (isD p (newD q) * F) := by
  have h2 : Sat u (w.alloc (headD (.slice none 0 0) (newD q))) (isD w.heap.size (newD q) * F) := isD_iff.2 ⟨okD_new q h1, .slice none 0 0, (isFiles_nil hs).alloc (headD (.slice none 0 0) (newD q))⟩
  by_cases hq : 0 < q
  · have e : newD q = ⟨[], q, 0, -1, false⟩ := by unfold newD; rw [show max 0 q = q from by omega]
    rw [e] at h2 ⊢
    have hn : ¬ q ≤ 0 := by omega
    clear e
    go_enter Tryz.func7, Tryz.ntmps7
    go_wp2
    go_ret
    exact ⟨_, rfl, h2⟩
  · have e : newD q = ⟨[], 0, 0, -1, false⟩ := by unfold newD; rw [show max 0 q = 0 from by omega]
    rw [e] at h2 ⊢
    have hn : q ≤ 0 := by omega
    clear e hq
    go_enter Tryz.func7, Tryz.ntmps7
    go_wp2
    go_ret
    exact ⟨_, rfl, h2⟩

set_option maxHeartbeats 400000 in
theorem dfail_any (u w : World) (F : HProp) (p : Nat) (d : DiskP) (n : Int) (h0 : -9223372036854775808 ≤ n) (h1 : n ≤ 9223372036854775807) (hs : Sat u w (isD p d * F)) :
    Calls Tryz.prog 9 #[.pointer (some ⟨p, 0, none⟩), .int .i64 n] w fun e w' => e = .returned (.tuple #[]) ∧ Sat u w' (isD p (failD d n) * F) := by
  obtain ⟨ok, v, h2⟩ := isD_iff.1 hs
  have c3 := h2.cell 3
  have f3 := h2.free 3
  have h3 := h2.setCell 3 (.int .i64 (max (-1) n))
  have h4 : Sat u (w.setCell ⟨p, 3, none⟩ (.int .i64 (max (-1) n))) (isD p (failD d n) * F) := isD_iff.2 ⟨okD_fail ok n h1, v, h3⟩
  clear hs h2 h3 h0
  by_cases hq : -1 < n
  · rw [show max (-1) n = n from by omega] at h4
    have hn : ¬ n ≤ -1 := by omega
    go_enter Tryz.func9, Tryz.ntmps9
    go_wp2
    go_end0
    exact ⟨rfl, h4⟩
  · rw [show max (-1) n = -1 from by omega] at h4
    have hn : n ≤ -1 := by omega
    clear hq
    go_enter Tryz.func9, Tryz.ntmps9
    go_wp2
    go_end0
    exact ⟨rfl, h4⟩

set_option maxHeartbeats 400000 in
theorem doff_any (u w : World) (F : HProp) (p : Nat) (d : DiskP) (hs : Sat u w (isD p d * F)) :
    Calls Tryz.prog 13 #[.pointer (some ⟨p, 0, none⟩)] w fun e w' => e = .returned (.bool d.off) ∧ w = w' := by
  obtain ⟨ok, v, h2⟩ := isD_iff.1 hs
  have c4 := h2.cell 4
  go_enter Tryz.func13, Tryz.ntmps13
  go_wp2
  go_ret
  exact ⟨rfl, rfl⟩

set_option maxHeartbeats 400000 in
theorem dcrash_any (u w : World) (F : HProp) (p : Nat) (d : DiskP) (hs : Sat u w (isD p d * F)) :
    Calls Tryz.prog 20 #[.pointer (some ⟨p, 0, none⟩)] w fun e w' => e = .returned (.tuple #[]) ∧ Sat u w' (isD p (crashD d) * F) := by
  obtain ⟨ok, v, h2⟩ := isD_iff.1 hs
  have c4 := h2.cell 4
  have f4 := h2.free 4
  have h3 := h2.setCell 4 (.bool true)
  have c3 := h3.cell 3
  have f3 := h3.free 3
  have h4 := h3.setCell 3 (.int .i64 (-1))
  have h5 : Sat u ((w.setCell ⟨p, 4, none⟩ (.bool true)).setCell ⟨p, 3, none⟩ (.int .i64 (-1))) (isD p (crashD d) * F) := isD_iff.2 ⟨okD_crash ok, v, h4⟩
  clear hs h2 h3 h4
  go_enter Tryz.func20, Tryz.ntmps20
  go_wp2
  go_end0
  exact ⟨rfl, h5⟩

set_option maxHeartbeats 400000 in
theorem dstep_any (u w : World) (F : HProp) (p : Nat) (d : DiskP) (hs : Sat u w (isD p d * F)) :
    Calls Tryz.prog 53 #[.pointer (some ⟨p, 0, none⟩)] w fun e w' => e = .returned (.bool (stepOk d)) ∧ Sat u w' (isD p (stepD d) * F) := by
  obtain ⟨ok, v, h2⟩ := isD_iff.1 hs
  have c2 := h2.cell 2
  have f2 := h2.free 2
  have hw := inc64_wrap d.steps
  have h3 := h2.setCell 2 (.int .i64 (inc64 d.steps))
  have ok3 : OkD { d with steps := inc64 d.steps } := ⟨ok.sorted, ok.set0, ok.set1, ok.quota0, ok.quota1, (inc64_in _).1, (inc64_in _).2, ok.size, ok.used, ok.many⟩
  have h4 : Sat u (w.setCell ⟨p, 2, none⟩ (.int .i64 (inc64 d.steps))) (isD p { d with steps := inc64 d.steps } * F) := isD_iff.2 ⟨ok3, v, h3⟩
  have c3 := h3.cell 3
  have f3 := h3.free 3
  have s0 := ok.set0
  have s1 := ok.set1
  clear hs h2 ok ok3
  by_cases h0 : d.set = 0
  · have e1 : stepOk d = false := by unfold stepOk; simp [h0]
    have e2 : stepD d = crashD { d with steps := inc64 d.steps } := by unfold stepD; rw [if_pos h0]
    rw [e1, e2]
    clear e1 e2 h3
    go_enter Tryz.func53, Tryz.ntmps53
    go_wp2_with fail
    refine (dcrash_any u _ _ p _ h4).mono ?_
    rintro e w1 ⟨rfl, h5⟩
    dsimp only
    clear c2 f2 c3 f3 h4
    go_wp2
    go_ret
    exact ⟨rfl, h5⟩
  · have e1 : stepOk d = true := by unfold stepOk; simp [h0]
    have e2 : stepD d = { d with steps := inc64 d.steps, set := max (-1) (d.set - 1) } := by unfold stepD; rw [if_neg h0]
    have okS := okD_step (isD_iff.1 h4).1
    have h5 := h3.setCell 3 (.int .i64 (max (-1) (d.set - 1)))
    have ok4 : OkD { d with steps := inc64 d.steps, set := max (-1) (d.set - 1) } := by
      have ok := (isD_iff.1 h4).1
      exact ⟨ok.sorted, by show -1 ≤ max (-1) (d.set - 1); omega, by show max (-1) (d.set - 1) ≤ _; omega, ok.quota0, ok.quota1, ok.steps0, ok.steps1, ok.size, ok.used, ok.many⟩
    have h6 : Sat u ((w.setCell ⟨p, 2, none⟩ (.int .i64 (inc64 d.steps))).setCell ⟨p, 3, none⟩ (.int .i64 (max (-1) (d.set - 1)))) (isD p { d with steps := inc64 d.steps, set := max (-1) (d.set - 1) } * F) := isD_iff.2 ⟨ok4, v, h5⟩
    rw [e1, e2]
    clear e1 e2 h3 h4 h5 okS ok4
    have d0 : (d.set == 0) = false := by simpa using h0
    by_cases hq : -1 < d.set - 1
    · have e3 : max (-1) (d.set - 1) = d.set - 1 := by omega
      rw [e3] at h6 ⊢
      have hn : ¬ d.set - 1 ≤ -1 := by omega
      have hn2 : ¬ d.set ≤ 0 := by omega
      clear e3
      go_enter Tryz.func53, Tryz.ntmps53
      go_wp2
      go_ret
      exact ⟨rfl, h6⟩
    · have e3 : max (-1) (d.set - 1) = -1 := by omega
      rw [e3] at h6 ⊢
      have hn : d.set - 1 ≤ -1 := by omega
      have hn2 : d.set ≤ 0 := by omega
      clear e3 hq
      go_enter Tryz.func53, Tryz.ntmps53
      go_wp2
      go_ret
      exact ⟨rfl, h6⟩
end Go.Proofs.YtlfmkiclaijokaaGreatDoor

namespace Go.Proofs.YtlfmkiclaijokaaGreatDoor

theorem len_put (f : FileP) : ∀ fs : List FileP, (putF f fs).length ≤ fs.length + 1
  | [] => Nat.le_refl _
  | g :: fs => by
    unfold putF
    split
    · have := len_put f fs
      simp only [List.length_cons]
      omega
    · split
      · simp
      · simp

theorem split_at (fs : List FileP) (hs : SortedF fs) (n : Bs) (f : FileP) (h : getF fs n = some f) : fs = fs.take (posN fs n) ++ f :: fs.drop (posN fs n + 1) ∧ posN fs n < fs.length := by
  rw [get_at fs hs n] at h
  rcases hx : fs[posN fs n]? with _ | g
  · rw [hx] at h; cases h
  · rw [hx, Option.bind_some] at h
    split at h
    · cases h
      obtain ⟨hlt, he⟩ := List.getElem?_eq_some_iff.1 hx
      refine ⟨?_, hlt⟩
      conv => lhs; rw [← List.take_append_drop (posN fs n) fs]
      rw [List.drop_eq_getElem_cons hlt, he]
    · cases h

theorem used_del (fs : List FileP) (hs : SortedF fs) (n : Bs) (f : FileP) (h : getF fs n = some f) : usedF (delF n fs) + f.size = usedF fs ∧ (delF n fs).length + 1 = fs.length := by
  obtain ⟨h1, h2⟩ := split_at fs hs n f h
  have hh : hasN fs n = true := by unfold hasN; rw [h]; rfl
  rw [del_at fs hs n hh]
  constructor
  · conv => rhs; rw [h1]
    unfold usedF
    simp only [List.map_append, List.map_cons, List.sum_append, List.sum_cons]
    omega
  · rw [List.length_append, List.length_take, List.length_drop]
    omega

theorem mem_del {n : Bs} {fs : List FileP} {g : FileP} (h : g ∈ delF n fs) : g ∈ fs := (List.mem_filter.1 h).1

theorem used_put_le (f : FileP) (fs : List FileP) (hs : SortedF fs) : usedF (putF f fs) ≤ usedF fs + f.size := by
  have := used_put f fs hs
  omega

theorem okD_del {d : DiskP} (h : OkD d) {n : Bs} {f : FileP} (hf : getF d.files n = some f) : OkD { d with files := delF n d.files } := by
  obtain ⟨h1, h2⟩ := used_del d.files h.sorted n f hf
  exact ⟨sorted_del n _ h.sorted, h.set0, h.set1, h.quota0, h.quota1, h.steps0, h.steps1, fun g hg => h.size g (mem_del hg), by show (usedF (delF n d.files) : Int) ≤ d.quota; have := h.used; omega, by show (delF n d.files).length ≤ _; have := h.many; omega⟩

theorem okD_dry {d : DiskP} (h : OkD d) {n : Bs} {f : FileP} (hf : getF d.files n = some f) (g : FileP) (hg : g.size ≤ f.size) : OkD { d with files := putF g (delF n d.files) } := by
  obtain ⟨h1, h2⟩ := used_del d.files h.sorted n f hf
  have h3 := used_put_le g (delF n d.files) (sorted_del n _ h.sorted)
  have h4 := len_put g (delF n d.files)
  refine ⟨sorted_put g _ (sorted_del n _ h.sorted), h.set0, h.set1, h.quota0, h.quota1, h.steps0, h.steps1, fun k hk => ?_, ?_, ?_⟩
  · rcases mem_putF hk with rfl | hk
    · exact Nat.le_trans hg (h.size f (getF_name hf).2)
    · exact h.size k (mem_del hk)
  · show (usedF (putF g (delF n d.files)) : Int) ≤ d.quota
    have := h.used
    omega
  · show (putF g (delF n d.files)).length ≤ _
    have := h.many
    omega
end Go.Proofs.YtlfmkiclaijokaaGreatDoor

namespace Go.Proofs.YtlfmkiclaijokaaGreatDoor

theorem onFiles_append (keep : List Int) (f : FileP) : ∀ (fs : List FileP) (i : Nat), onFiles keep i (fs ++ [f]) = onFiles keep i fs ++ (if (onFile keep (i + fs.length) f).born then [onFile keep (i + fs.length) f] else [])
  | [], i => by simp [onFiles]
  | g :: fs, i => by
    have ih := onFiles_append keep f fs (i + 1)
    rw [show i + 1 + fs.length = i + (g :: fs).length from by simp; omega] at ih
    rw [List.cons_append]
    unfold onFiles
    rw [ih]
    split <;> rfl

theorem onFile_size (keep : List Int) (i : Nat) (f : FileP) : (onFile keep i f).size ≤ f.size := by
  show (f.dry ++ f.wet.take _).length + 0 ≤ f.dry.length + f.wet.length
  rw [List.length_append, List.length_take]
  omega

theorem used_on (keep : List Int) : ∀ (fs : List FileP) (i : Nat), usedF (onFiles keep i fs) ≤ usedF fs
  | [], _ => Nat.le_refl _
  | f :: fs, i => by
    have ih := used_on keep fs (i + 1)
    have h := onFile_size keep i f
    unfold onFiles
    have e : ∀ (g : FileP) (l : List FileP), usedF (g :: l) = g.size + usedF l := fun g l => rfl
    split
    · rw [e, e]; omega
    · rw [e]; omega

theorem len_on (keep : List Int) : ∀ (fs : List FileP) (i : Nat), (onFiles keep i fs).length ≤ fs.length
  | [], _ => Nat.le_refl _
  | f :: fs, i => by
    have ih := len_on keep fs (i + 1)
    unfold onFiles
    split
    · simp only [List.length_cons]; omega
    · simp only [List.length_cons]; omega

theorem okD_on {d : DiskP} (h : OkD d) (keep : List Int) : OkD (onD d keep) := by
  unfold onD
  split
  · refine ⟨sorted_on keep _ _ h.sorted, by show (-1 : Int) ≤ -1; omega, by show (-1 : Int) ≤ _; omega, h.quota0, h.quota1, h.steps0, h.steps1, fun f hf => ?_, ?_, ?_⟩
    · obtain ⟨g, hg, j, rfl⟩ := mem_onFiles hf
      exact Nat.le_trans (onFile_size _ _ _) (h.size g hg)
    · show (usedF (onFiles keep 0 d.files) : Int) ≤ d.quota
      have h1 := used_on keep d.files 0
      have h2 := h.used
      omega
    · show (onFiles keep 0 d.files).length ≤ _
      have h1 := len_on keep d.files 0
      have h2 := h.many
      omega
  · exact ⟨h.sorted, by show (-1 : Int) ≤ -1; omega, by show (-1 : Int) ≤ _; omega, h.quota0, h.quota1, h.steps0, h.steps1, h.size, h.used, h.many⟩

/-- Go's remainder, made one that is not below 0. -/
theorem rem_twice (q : Int) (m : Nat) (hm : 0 < m) : -(m : Int) < q.tmod m ∧ q.tmod m < m ∧ (q.tmod m + m).tmod m = q % m := by
  have h1 : q.tmod m < m := by
    have := Int.tmod_lt_of_pos q (show (0 : Int) < m by omega)
    omega
  have h2 : -(m : Int) < q.tmod m := by
    have := Int.tmod_lt_of_pos (-q) (show (0 : Int) < m by omega)
    rw [Int.neg_tmod] at this
    omega
  refine ⟨h2, h1, ?_⟩
  rw [Int.tmod_eq_emod_of_nonneg (by omega), Int.add_emod_right]
  have h3 : q.tmod m = q - m * q.tdiv m := by have := Int.mul_tdiv_add_tmod q m; omega
  rw [h3, Int.sub_mul_emod_self_left]
end Go.Proofs.YtlfmkiclaijokaaGreatDoor
