/- wal: unframed. wal: a log in memory; what it tells of itself. -/
import Derived.Test.YtlfmkiclaijokaaGreatDoorMk15
import Derived.Test.YtlfmkiclaijokaaGreatDoorMk3
import Derived.Recover
import Derived.Defers
namespace Go.Proofs.YtlfmkiclaijokaaGreatDoor
open Go.RowKit
set_option linter.unusedVariables false

/-- Code that does not panic: what is asked of a panic is nothing. -/
theorem wp_noPanic {P : Program} {c : Code} {Q : Exit → Act → World → Prop} {a : Act} {w : World} (h : c.wp P (fun e a w => match e with | .normal => Q .normal a w | _ => False) a w) : c.wp P Q a w :=
  Code.wp_mono (fun e a w h => by
    cases e
    case normal => exact h
    all_goals exact h.elim) h

theorem BytesAt.fore {w : World} {a : Option Addr} {len c : Nat} {all : List UInt8} (h : BytesAt w (.slice a len c) all) (n : Nat) (hn : n ≤ all.length) : BytesAt w (.slice a n c) (all.take n) := by
  have hl : (all.take n).length = n := by simp; omega
  rcases h with ⟨hv, h0, hx⟩ | ⟨a', c', hv, h1, h2, h3⟩
  · cases hv
    have : all = [] := List.eq_nil_of_length_eq_zero h0
    subst this
    simp at hn
    subst hn
    exact .inl ⟨rfl, rfl, rfl⟩
  · cases hv
    unfold BytesAt
    rw [hl]
    refine .inr ⟨a', c, rfl, by omega, h2, fun j u hu => h3 j u ?_⟩
    simp only [List.map_take, List.getElem?_take] at hu
    split at hu
    · exact hu
    · cases hu

theorem BytesAt.rear {w : World} {b o len c : Nat} {all : List UInt8} (h : BytesAt w (.slice (some ⟨b, o, none⟩) len c) all) (k : Nat) (hk : k ≤ all.length) :
    BytesAt w (.slice (if c = k then some ⟨b, o, none⟩ else some ⟨b, o + k, none⟩) (len - k) (c - k)) (all.drop k) := by
  obtain ⟨rfl, h1, h2⟩ := RowAt.cap h
  by_cases hn : k = all.length
  · subst hn
    have e : all.drop all.length = [] := List.drop_length
    rw [e, Nat.sub_self]
    split
    · exact .inr ⟨_, _, rfl, Nat.zero_le _, by omega, fun j u hu => by simp at hu⟩
    · exact .inr ⟨_, _, rfl, Nat.zero_le _, by omega, fun j u hu => by simp at hu⟩
  · have hc : c ≠ k := by omega
    rw [if_neg hc]
    have := h.part k (all.length - k) (c - k) (by omega) (by omega) (by omega) (by omega)
    rw [List.take_of_length_le (by simp)] at this
    have e : (some ⟨b, o, none⟩ : Option Addr).map (fun x => x.add k) = some ⟨b, o + k, none⟩ := by simp [addr_add_at]
    rw [e] at this
    exact this

theorem Got.rd {u w' : World} {F : HProp} {p : Nat} {all : Bs} {st : Option Nat} {m : Nat} {kd : IntKind} {e : Ending} (h : Got u F p all st m kd e w') :
    e = .returned (.int kd (rdN all st m).1) ∧ Sat u w' (isR p all (rdN all st m).2 * F) := by
  rcases h with ⟨k, rfl, h1, h2, h3⟩ | ⟨h1, h2, h3⟩
  · unfold rdN
    dsimp only
    rw [if_pos h1]
    exact ⟨h2, h3⟩
  · unfold rdN
    cases st with
    | none => exact ⟨h2, h3⟩
    | some k =>
      dsimp only
      rw [if_neg (by have := h1 k rfl; omega)]
      exact ⟨h2, h3⟩

theorem catch_panicking (q : Nat) (x1 x2 x3 x4 pv : Value) (ab : Option Addr) (nb cb : Nat) (older : List PanicEntry) (u w : World) (F : HProp)
    (hs : Sat u w (own q (.cells #[.slice ab nb cb] 34 (0, 0)) * (own (q + 1) (.cells #[x1] 34 (0, 0)) * (own (q + 2) (.cells #[x2] 2 (0, 0)) * (own (q + 3) (.cells #[x3] 34 (0, 0)) * (own (q + 4) (.cells #[x4] 4 (0, 0)) * F)))))) :
    CallsD Tryz.prog 64 #[.pointer (some ⟨q, 0, none⟩), .pointer (some ⟨q + 1, 0, none⟩), .pointer (some ⟨q + 2, 0, none⟩), .pointer (some ⟨q + 3, 0, none⟩), .pointer (some ⟨q + 4, 0, none⟩)]
      (.panicking ({ v := .iface 89 pv, recovered := false } :: older)) w fun e u' w' =>
      e = .returned (.tuple #[]) ∧ u' = .panicking ({ v := .iface 89 pv, recovered := true } :: older) ∧
      w' = (((w.setCell ⟨q + 1, 0, none⟩ (.slice none 0 0)).setCell ⟨q + 2, 0, none⟩ (.int .i64 0)).setCell ⟨q + 3, 0, none⟩ (.slice ab nb cb)).setCell ⟨q + 4, 0, none⟩ (.bool false) := by
  have c0 := hs.cell 0
  have c1 := hs.right.cell 0
  have f1 := hs.right.free 0
  have c2 := hs.right.right.cell 0
  have f2 := hs.right.right.free 0
  have c3 := hs.right.right.right.cell 0
  have f3 := hs.right.right.right.free 0
  have c4 := hs.right.right.right.right.cell 0
  have f4 := hs.right.right.right.right.free 0
  simp only [List.getElem?_toArray, List.getElem?_cons_zero] at c0 c1 c2 c3 c4
  have hta : ∀ (xT : TypeId) (w : World), (Instr.typeAssert (.iface 89 pv) xT 89 false).run Tryz.prog w = .ok pv w := fun xT w => by
    have hu := Tryz.underlying89
    simp [Instr.typeAssert, run_underlying hu, go_sem, Result.andThen]
  refine callsD_of_wpS Tryz.func64 rfl fun c₀ cs hu => ?_
  apply wpS_seq
  apply wpS_region
  simp [wpOpsS, go_sem, recoverD, hu, Tryz.ntmps64, Exit.thenS]
  apply wpS_seq
  apply wpS_region
  simp [wpOpsS, go_sem, Exit.thenS, Array.replicate]
  refine wpS_cond (t := true) (by simp [Act.eval, Array.replicate]) ?_
  simp only [if_true]
  apply wpS_seq
  apply wpS_region
  simp [wpOpsS, go_sem, Exit.thenS, hta]
  apply wpS_region
  simp [wpOpsS, go_sem, c0, c1, c2, c3, c4, f1, f2, f3, f4, bodyPostS, results, Tryz.results64]

theorem catch_idle (a0 a1 a2 a3 a4 : Value) (w : World) :
    CallsD Tryz.prog 64 #[a0, a1, a2, a3, a4] .returning w fun e u' w' => e = .returned (.tuple #[]) ∧ u' = .returning ∧ w' = w := by
  refine callsD_of_wpS Tryz.func64 rfl fun c₀ cs hu => ?_
  apply wpS_seq
  apply wpS_region
  simp [wpOpsS, go_sem, recoverD, hu, Tryz.ntmps64, Exit.thenS]
  apply wpS_seq
  apply wpS_region
  simp [wpOpsS, go_sem, Exit.thenS, Array.replicate]
  refine wpS_cond (t := false) (by simp [Act.eval, Array.replicate]) ?_
  simp only [Bool.false_eq_true, if_false]
  refine wpS_of_wp (wp_skip ?_)
  cases c₀
  simp_all [bodyPostS, results, Tryz.results64]

section
variable (u w : World) (F : HProp) (tag : UInt8) (most : Nat) (b : Bs) (ab : Option Addr) (cb : Nat)

/-- What unframed promises. -/
def Unf (u : World) (F : HProp) (tag : UInt8) (most : Nat) (b : Bs) (v : Value) (e : Ending) (w' : World) : Prop :=
  match unframeP tag most b with
  | none => e = .returned (.tuple #[.slice none 0 0, .int .i64 0, v, .bool false]) ∧ Sat u w' F
  | some (s, n, rest) => ∃ a c a2 c2, e = .returned (.tuple #[.slice a s.length c, .int .i64 n, .slice a2 rest.length c2, .bool true]) ∧ (∀ x, BytesAt x v b → BytesAt x (.slice a2 rest.length c2) rest) ∧ Sat u w' (ownB (.slice a s.length c) s * F)

theorem Unf.no {u w' : World} {F : HProp} {tag : UInt8} {most : Nat} {b : Bs} {v : Value} {e : Ending} (h : unframeP tag most b = none) (he : e = .returned (.tuple #[.slice none 0 0, .int .i64 0, v, .bool false])) (hs : Sat u w' F) : Unf u F tag most b v e w' := by
  unfold Unf
  rw [h]
  exact ⟨he, hs⟩

set_option maxRecDepth 100000 in
set_option maxHeartbeats 4000000 in
theorem unframed_any (ht : tag.toNat ≠ 0) (hm : most ≤ 100000000) (hl : b.length ≤ 100000000) (hb : ∀ w', Sat u w' F → BytesAt w' (.slice ab b.length cb) b) (hs : Sat u w F) :
    Calls Tryz.prog 30 #[.int .u8 tag.toNat, .int .i64 most, .slice ab b.length cb] w (Unf u F tag most b (.slice ab b.length cb)) := by
  have hmf : ∀ (fn : Fn) (first cap : Array Value) (w : World), (Instr.makeFunc fn first cap).run Tryz.prog w = .ok (.func fn first cap) w := fun _ _ _ _ => rfl
  have h1 := ((((hs.alloc (.cells #[.slice ab b.length cb] 34)).alloc (.cells #[.slice none 0 0] 34)).alloc (.cells #[.int .i64 0] 2)).alloc (.cells #[.slice none 0 0] 34)).alloc (.cells #[.bool false] 4)
  simp only [World.size_alloc, Nat.add_assoc, Nat.reduceAdd] at h1
  generalize hq : w.heap.size = q at h1
  have h2 : Sat u _ (own q (.cells #[.slice ab b.length cb] 34 (0, 0)) * (own (q + 1) (.cells #[.slice none 0 0] 34 (0, 0)) * (own (q + 2) (.cells #[.int .i64 0] 2 (0, 0)) * (own (q + 3) (.cells #[.slice none 0 0] 34 (0, 0)) * (own (q + 4) (.cells #[.bool false] 4 (0, 0)) * F))))) := h1.eq (by ac_rfl)
  have HB := Lib.hid hb
  have HQ := Lib.hid hq
  clear hs hb h1 hq
  go_enter_defers Tryz.func30, Tryz.ntmps30
  go_wp2_with fail
  rw [HQ.out]
  simp only [Nat.add_assoc, Nat.reduceAdd]
  refine (open_any u _ _ _ b h2 (HB.out _ h2.right.right.right.right.right) (by omega)).mono ?_
  rintro e w1 ⟨pr, rfl, h3⟩
  clear h2
  dsimp only
  clear HQ
  go_wp2_with fail
  refine (rbyte_any u _ _ pr b (some 0) h3 (by omega)).mono ?_
  intro e w2 hg
  obtain ⟨rfl, h4⟩ := hg.rd
  clear hg h3
  dsimp only
  have htl := tag.toNat_lt
  by_cases ht1 : (rdN b (some 0) 1).1 = tag.toNat
  case neg =>
    have hno := unf_tag (most := most) ht1
    have HNO := Lib.hid hno
    generalize (rdN b (some 0) 1).1 = m1 at h4 ht1 ⊢
    have hne : ((m1 : Int) == (tag.toNat : Int)) = false := by
      rw [beq_eq_false_iff_ne]
      omega
    have hbox := h4.right
    clear h4 hno
    go_wp2_with fail
    refine (want_no _).mono ?_
    rintro e w3 ⟨rfl, rfl⟩
    dsimp only
    go_wp2_with fail
    refine leaves_cons (f := 64) (args := #[.pointer (some ⟨q, 0, none⟩), .pointer (some ⟨q + 1, 0, none⟩), .pointer (some ⟨q + 2, 0, none⟩), .pointer (some ⟨q + 3, 0, none⟩), .pointer (some ⟨q + 4, 0, none⟩)]) (by simp) (by simp [go_sem]) ?_
    refine (catch_panicking q _ _ _ _ _ ab b.length cb [] u _ _ hbox).mono ?_
    rintro e u' w'' ⟨rfl, rfl, rfl⟩
    have hb1 := ((((hbox).s2.setCell 0 (.slice none 0 0)).s3.setCell 0 (.int .i64 0)).s4.setCell 0 (.slice ab b.length cb)).s5.setCell 0 (.bool false)
    have hb2 : Sat u _ (own (q + 4) (.cells #[.bool false] 4 (0, 0)) * (own (q + 3) (.cells #[.slice ab b.length cb] 34 (0, 0)) * (own (q + 2) (.cells #[.int .i64 0] 2 (0, 0)) * (own (q + 1) (.cells #[.slice none 0 0] 34 (0, 0)) * (own q (.cells #[.slice ab b.length cb] 34 (0, 0)) * F))))) := hb1
    have e4 := hb2.cell 0
    have e3 := hb2.right.cell 0
    have e2 := hb2.right.right.cell 0
    have e1 := hb2.right.right.right.cell 0
    simp only [List.getElem?_toArray, List.getElem?_cons_zero] at e1 e2 e3 e4
    have HB2 := Lib.hid hb2.right.right.right.right.right
    clear hb1 hb2 hbox
    simp [Leaves, settle, results, Tryz.results30, go_sem, e1, e2, e3, e4]
    exact Unf.no HNO.out rfl HB2.out
  obtain ⟨hl1, hhead, hst1⟩ := unf_tag_ok ht ht1
  rw [ht1]
  rw [hst1] at h4
  have HHEAD := Lib.hid hhead
  clear ht1 hst1 hhead
  go_wp2_with fail
  refine (want_yes _).mono ?_
  rintro e w3 ⟨rfl, rfl⟩
  dsimp only
  go_wp2_with fail
  refine (rlong_any u _ _ pr b (some 1) h4 (by omega)).mono ?_
  intro e w3 hg
  obtain ⟨rfl, h5⟩ := hg.rd
  clear hg h4
  dsimp only
  obtain ⟨nn, hnn⟩ : ∃ nn, (rdN b (some 1) 8).1 = nn := ⟨_, rfl⟩
  obtain ⟨st2, hst2⟩ : ∃ st2, (rdN b (some 1) 8).2 = st2 := ⟨_, rfl⟩
  have hlt : nn < 18446744073709551616 := by
    have h := rdN_lt b (some 1) 8
    have h4 : (256 : Nat) ^ 8 = 18446744073709551616 := by decide
    omega
  have HNN := Lib.hid hnn
  have HST2 := Lib.hid hst2
  rw [hnn]
  rw [hst2] at h5
  clear hnn hst2
  have h6 : Sat u w3 (own (q + 2) (.cells #[.int .i64 0] 2 (0, 0)) * (isR pr b st2 * (own q (.cells #[.slice ab b.length cb] 34 (0, 0)) * (own (q + 1) (.cells #[.slice none 0 0] 34 (0, 0)) * (own (q + 3) (.cells #[.slice none 0 0] 34 (0, 0)) * (own (q + 4) (.cells #[.bool false] 4 (0, 0)) * F)))))) := h5.eq (by ac_rfl)
  have c2 := h6.cell 0
  have f2 := h6.free 0
  obtain ⟨z, hz⟩ : ∃ z, IntKind.i64.wrap (nn : Int) = z := ⟨_, rfl⟩
  have h7 : Sat u (w3.setCell ⟨q + 2, 0, none⟩ (.int .i64 z)) (own (q + 2) (.cells #[.int .i64 z] 2 (0, 0)) * (isR pr b st2 * (own q (.cells #[.slice ab b.length cb] 34 (0, 0)) * (own (q + 1) (.cells #[.slice none 0 0] 34 (0, 0)) * (own (q + 3) (.cells #[.slice none 0 0] 34 (0, 0)) * (own (q + 4) (.cells #[.bool false] 4 (0, 0)) * F)))))) := h6.setCell 0 (.int .i64 z)
  simp only [List.getElem?_toArray, List.getElem?_cons_zero] at c2
  clear h5 h6
  go_wp2_with fail
  refine (rword_any u _ _ pr b st2 h7.s2 (by omega)).mono ?_
  intro e w4 hg
  obtain ⟨rfl, h8⟩ := hg.rd
  clear hg h7 c2 f2
  dsimp only
  have hszl : (rdN b st2 4).1 < 4294967296 := by
    have h := rdN_lt b st2 4
    have h4 : (256 : Nat) ^ 4 = 4294967296 := by decide
    omega
  obtain ⟨sz, hsz⟩ : ∃ sz, (rdN b st2 4).1 = sz := ⟨_, rfl⟩
  obtain ⟨st3, hst3⟩ : ∃ st3, (rdN b st2 4).2 = st3 := ⟨_, rfl⟩
  rw [hsz] at hszl ⊢
  rw [hst3] at h8
  have HSZ := Lib.hid hsz
  have HST3 := Lib.hid hst3
  have HZ := Lib.hid hz
  have c2 : w4.cell? ⟨q + 2, 0, none⟩ = some (.int .i64 z) := h8.right.cell 0
  have hws : IntKind.i64.wrap (sz : Int) = sz := by rw [IntKind.wrap_i64]; omega
  clear hsz hst3 hz
  by_cases hz1 : (1 : Int) ≤ z
  case neg =>
    have HNO := Lib.hid (unf_num (tag := tag) (most := most) (b := b) (by rw [HNN.out]; have := HZ.out; rw [IntKind.wrap_i64] at this; omega))
    have hbox := h8.right.rot3
    clear h8
    go_wp2_with fail
    refine (want_no _).mono ?_
    rintro e w5 ⟨rfl, rfl⟩
    dsimp only
    clear c2
    go_wp2_with fail
    refine leaves_cons (f := 64) (args := #[.pointer (some ⟨q, 0, none⟩), .pointer (some ⟨q + 1, 0, none⟩), .pointer (some ⟨q + 2, 0, none⟩), .pointer (some ⟨q + 3, 0, none⟩), .pointer (some ⟨q + 4, 0, none⟩)]) (by simp) (by simp [go_sem]) ?_
    refine (catch_panicking q _ _ _ _ _ ab b.length cb [] u _ _ hbox).mono ?_
    rintro e u' w'' ⟨rfl, rfl, rfl⟩
    have hb1 := ((((hbox).s2.setCell 0 (.slice none 0 0)).s3.setCell 0 (.int .i64 0)).s4.setCell 0 (.slice ab b.length cb)).s5.setCell 0 (.bool false)
    have hb2 : Sat u _ (own (q + 4) (.cells #[.bool false] 4 (0, 0)) * (own (q + 3) (.cells #[.slice ab b.length cb] 34 (0, 0)) * (own (q + 2) (.cells #[.int .i64 0] 2 (0, 0)) * (own (q + 1) (.cells #[.slice none 0 0] 34 (0, 0)) * (own q (.cells #[.slice ab b.length cb] 34 (0, 0)) * F))))) := hb1
    have e4 := hb2.cell 0
    have e3 := hb2.right.cell 0
    have e2 := hb2.right.right.cell 0
    have e1 := hb2.right.right.right.cell 0
    simp only [List.getElem?_toArray, List.getElem?_cons_zero] at e1 e2 e3 e4
    have HB2 := Lib.hid hb2.right.right.right.right.right
    clear hb1 hb2 hbox
    simp [Leaves, settle, results, Tryz.results30, go_sem, e1, e2, e3, e4]
    exact Unf.no HNO.out rfl HB2.out
  by_cases hz2 : z ≤ (4611686018427387904 : Int)
  case neg =>
    have HNO := Lib.hid (unf_num (tag := tag) (most := most) (b := b) (by rw [HNN.out]; have := HZ.out; rw [IntKind.wrap_i64] at this; omega))
    have hbox := h8.right.rot3
    clear h8
    go_wp2_with fail
    refine (want_no _).mono ?_
    rintro e w5 ⟨rfl, rfl⟩
    dsimp only
    clear c2
    go_wp2_with fail
    refine leaves_cons (f := 64) (args := #[.pointer (some ⟨q, 0, none⟩), .pointer (some ⟨q + 1, 0, none⟩), .pointer (some ⟨q + 2, 0, none⟩), .pointer (some ⟨q + 3, 0, none⟩), .pointer (some ⟨q + 4, 0, none⟩)]) (by simp) (by simp [go_sem]) ?_
    refine (catch_panicking q _ _ _ _ _ ab b.length cb [] u _ _ hbox).mono ?_
    rintro e u' w'' ⟨rfl, rfl, rfl⟩
    have hb1 := ((((hbox).s2.setCell 0 (.slice none 0 0)).s3.setCell 0 (.int .i64 0)).s4.setCell 0 (.slice ab b.length cb)).s5.setCell 0 (.bool false)
    have hb2 : Sat u _ (own (q + 4) (.cells #[.bool false] 4 (0, 0)) * (own (q + 3) (.cells #[.slice ab b.length cb] 34 (0, 0)) * (own (q + 2) (.cells #[.int .i64 0] 2 (0, 0)) * (own (q + 1) (.cells #[.slice none 0 0] 34 (0, 0)) * (own q (.cells #[.slice ab b.length cb] 34 (0, 0)) * F))))) := hb1
    have e4 := hb2.cell 0
    have e3 := hb2.right.cell 0
    have e2 := hb2.right.right.cell 0
    have e1 := hb2.right.right.right.cell 0
    simp only [List.getElem?_toArray, List.getElem?_cons_zero] at e1 e2 e3 e4
    have HB2 := Lib.hid hb2.right.right.right.right.right
    clear hb1 hb2 hbox
    simp [Leaves, settle, results, Tryz.results30, go_sem, e1, e2, e3, e4]
    exact Unf.no HNO.out rfl HB2.out
  have hzn : z = nn := by have := HZ.out; rw [IntKind.wrap_i64] at this; omega
  have hn1 : 1 ≤ nn := by omega
  have hn2 : nn ≤ 4611686018427387904 := by omega
  obtain ⟨hl9, hrd⟩ := unf_num_ok (b := b) (by rw [HNN.out]; exact hn1)
  have hs2 : st2 = some 9 := by rw [← HST2.out, hrd]
  have hnn : nn = num ((b.drop 1).take 8) := by rw [← HNN.out, hrd]
  have HNUM := Lib.hid hnn
  subst hs2
  clear hrd hnn HNN HST2 HZ
  by_cases hz3 : (sz : Int) ≤ most
  case neg =>
    have HNO := Lib.hid (unf_size (tag := tag) (most := most) (b := b) (by rw [HSZ.out]; omega))
    have hbox := h8.right.rot3
    clear h8 hzn
    go_wp2_with fail
    refine (want_no _).mono ?_
    rintro e w5 ⟨rfl, rfl⟩
    dsimp only
    clear c2
    go_wp2_with fail
    refine leaves_cons (f := 64) (args := #[.pointer (some ⟨q, 0, none⟩), .pointer (some ⟨q + 1, 0, none⟩), .pointer (some ⟨q + 2, 0, none⟩), .pointer (some ⟨q + 3, 0, none⟩), .pointer (some ⟨q + 4, 0, none⟩)]) (by simp) (by simp [go_sem]) ?_
    refine (catch_panicking q _ _ _ _ _ ab b.length cb [] u _ _ hbox).mono ?_
    rintro e u' w'' ⟨rfl, rfl, rfl⟩
    have hb1 := ((((hbox).s2.setCell 0 (.slice none 0 0)).s3.setCell 0 (.int .i64 0)).s4.setCell 0 (.slice ab b.length cb)).s5.setCell 0 (.bool false)
    have hb2 : Sat u _ (own (q + 4) (.cells #[.bool false] 4 (0, 0)) * (own (q + 3) (.cells #[.slice ab b.length cb] 34 (0, 0)) * (own (q + 2) (.cells #[.int .i64 0] 2 (0, 0)) * (own (q + 1) (.cells #[.slice none 0 0] 34 (0, 0)) * (own q (.cells #[.slice ab b.length cb] 34 (0, 0)) * F))))) := hb1
    have e4 := hb2.cell 0
    have e3 := hb2.right.cell 0
    have e2 := hb2.right.right.cell 0
    have e1 := hb2.right.right.right.cell 0
    simp only [List.getElem?_toArray, List.getElem?_cons_zero] at e1 e2 e3 e4
    have HB2 := Lib.hid hb2.right.right.right.right.right
    clear hb1 hb2 hbox
    simp [Leaves, settle, results, Tryz.results30, go_sem, e1, e2, e3, e4]
    exact Unf.no HNO.out rfl HB2.out
  subst hzn
  go_wp2_with fail
  refine (want_yes _).mono ?_
  rintro e w5 ⟨rfl, rfl⟩
  dsimp only
  clear c2
  go_wp2_with fail
  obtain ⟨hr3a, hr3b⟩ : (13 ≤ b.length → st3 = some 13) ∧ (¬ 13 ≤ b.length → st3 = none) := by
    rw [← HST3.out]
    unfold rdN
    dsimp only
    constructor
    · intro h; rw [if_pos (by omega)]
    · intro h; rw [if_neg (by omega)]
  have HR3A := Lib.hid hr3a
  have HR3B := Lib.hid hr3b
  clear hr3a hr3b
  by_cases hfit : 17 + sz ≤ b.length
  case neg =>
    have HNO := Lib.hid (unf_short (tag := tag) (most := most) (b := b) (by rw [HSZ.out]; omega))
    refine (rraw_any u _ _ pr b st3 sz h8 (by omega)).mono ?_
    rintro e w5 (⟨k, a6, c6, hk, _, hkl, rfl, h9⟩ | ⟨_, rfl, h9⟩)
    · have hk13 : k = 13 := by
        by_cases h13 : 13 ≤ b.length
        · have := HR3A.out h13
          rw [hk] at this
          exact Option.some.inj this
        · have := HR3B.out h13
          rw [hk] at this
          cases this
      subst hk13
      simp only [Int.toNat_natCast] at h9
      rw [Int.toNat_natCast]
      have h10 : Sat u w5 (own (q + 1) (.cells #[.slice none 0 0] 34 (0, 0)) * (isR pr b (some (13 + sz)) * (own (q + 2) (.cells #[.int .i64 nn] 2 (0, 0)) * (own q (.cells #[.slice ab b.length cb] 34 (0, 0)) * (own (q + 3) (.cells #[.slice none 0 0] 34 (0, 0)) * (own (q + 4) (.cells #[.bool false] 4 (0, 0)) * F)))))) := h9.right.eq (by ac_rfl)
      have hrd : rdN b (some (13 + sz)) 4 = (0, none) := by unfold rdN; dsimp only; rw [if_neg (by omega)]
      dsimp only
      have c1 := h10.cell 0
      have f1 := h10.free 0
      have h11 : Sat u (w5.setCell ⟨q + 1, 0, none⟩ (.slice a6 sz c6)) (own (q + 1) (.cells #[(.slice a6 sz c6)] 34 (0, 0)) * (isR pr b (some (13 + sz)) * (own (q + 2) (.cells #[.int .i64 nn] 2 (0, 0)) * (own q (.cells #[.slice ab b.length cb] 34 (0, 0)) * (own (q + 3) (.cells #[.slice none 0 0] 34 (0, 0)) * (own (q + 4) (.cells #[.bool false] 4 (0, 0)) * F)))))) := h10.setCell 0 (.slice a6 sz c6)
      simp only [List.getElem?_toArray, List.getElem?_cons_zero] at c1
      clear h8 h9 h10
      go_wp2_with fail
      refine (rword_any u _ _ pr b (some (13 + sz)) h11.s2 (by omega)).mono ?_
      intro e w6 hg
      obtain ⟨rfl, h12⟩ := hg.rd
      clear hg h11 c1 f1
      rw [hrd] at h12 ⊢
      clear hrd
      dsimp only
      obtain ⟨_, vr, h13⟩ := isR_iff.1 h12
      have cbad : w6.cell? ⟨pr, 1, none⟩ = some (.int .i64 (-1)) := h13.cell 1
      have hbox : Sat u w6 (own q (.cells #[.slice ab b.length cb] 34 (0, 0)) * (own (q + 1) (.cells #[(.slice a6 sz c6)] 34 (0, 0)) * (own (q + 2) (.cells #[.int .i64 nn] 2 (0, 0)) * (own (q + 3) (.cells #[.slice none 0 0] 34 (0, 0)) * (own (q + 4) (.cells #[.bool false] 4 (0, 0)) * F))))) := h12.right.eq (by ac_rfl)
      clear h12 h13
      go_wp2_with fail
      refine (bad_yes _ pr cbad).mono ?_
      rintro e w7 ⟨rfl, rfl⟩
      clear cbad
      go_wp2_with fail
      refine (want_no _).mono ?_
      rintro e w8 ⟨rfl, rfl⟩
      dsimp only
      go_wp2_with fail
      refine leaves_cons (f := 64) (args := #[.pointer (some ⟨q, 0, none⟩), .pointer (some ⟨q + 1, 0, none⟩), .pointer (some ⟨q + 2, 0, none⟩), .pointer (some ⟨q + 3, 0, none⟩), .pointer (some ⟨q + 4, 0, none⟩)]) (by simp) (by simp [go_sem]) ?_
      refine (catch_panicking q _ _ _ _ _ ab b.length cb [] u _ _ hbox).mono ?_
      rintro e u' w'' ⟨rfl, rfl, rfl⟩
      have hb1 := ((((hbox).s2.setCell 0 (.slice none 0 0)).s3.setCell 0 (.int .i64 0)).s4.setCell 0 (.slice ab b.length cb)).s5.setCell 0 (.bool false)
      have hb2 : Sat u _ (own (q + 4) (.cells #[.bool false] 4 (0, 0)) * (own (q + 3) (.cells #[.slice ab b.length cb] 34 (0, 0)) * (own (q + 2) (.cells #[.int .i64 0] 2 (0, 0)) * (own (q + 1) (.cells #[.slice none 0 0] 34 (0, 0)) * (own q (.cells #[.slice ab b.length cb] 34 (0, 0)) * F))))) := hb1
      have e4 := hb2.cell 0
      have e3 := hb2.right.cell 0
      have e2 := hb2.right.right.cell 0
      have e1 := hb2.right.right.right.cell 0
      simp only [List.getElem?_toArray, List.getElem?_cons_zero] at e1 e2 e3 e4
      have HB2 := Lib.hid hb2.right.right.right.right.right
      clear hb1 hb2 hbox
      simp [Leaves, settle, results, Tryz.results30, go_sem, e1, e2, e3, e4]
      exact Unf.no HNO.out rfl HB2.out
    · have h10 : Sat u w5 (own (q + 1) (.cells #[.slice none 0 0] 34 (0, 0)) * (isR pr b none * (own (q + 2) (.cells #[.int .i64 nn] 2 (0, 0)) * (own q (.cells #[.slice ab b.length cb] 34 (0, 0)) * (own (q + 3) (.cells #[.slice none 0 0] 34 (0, 0)) * (own (q + 4) (.cells #[.bool false] 4 (0, 0)) * F)))))) := h9.eq (by ac_rfl)
      have hrd : rdN b none 4 = (0, none) := rfl
      dsimp only
      have c1 := h10.cell 0
      have f1 := h10.free 0
      have h11 : Sat u (w5.setCell ⟨q + 1, 0, none⟩ (.slice none 0 0)) (own (q + 1) (.cells #[(.slice none 0 0)] 34 (0, 0)) * (isR pr b none * (own (q + 2) (.cells #[.int .i64 nn] 2 (0, 0)) * (own q (.cells #[.slice ab b.length cb] 34 (0, 0)) * (own (q + 3) (.cells #[.slice none 0 0] 34 (0, 0)) * (own (q + 4) (.cells #[.bool false] 4 (0, 0)) * F)))))) := h10.setCell 0 (.slice none 0 0)
      simp only [List.getElem?_toArray, List.getElem?_cons_zero] at c1
      clear h8 h9 h10
      go_wp2_with fail
      refine (rword_any u _ _ pr b none h11.s2 (by omega)).mono ?_
      intro e w6 hg
      obtain ⟨rfl, h12⟩ := hg.rd
      clear hg h11 c1 f1
      rw [hrd] at h12 ⊢
      clear hrd
      dsimp only
      obtain ⟨_, vr, h13⟩ := isR_iff.1 h12
      have cbad : w6.cell? ⟨pr, 1, none⟩ = some (.int .i64 (-1)) := h13.cell 1
      have hbox : Sat u w6 (own q (.cells #[.slice ab b.length cb] 34 (0, 0)) * (own (q + 1) (.cells #[(.slice none 0 0)] 34 (0, 0)) * (own (q + 2) (.cells #[.int .i64 nn] 2 (0, 0)) * (own (q + 3) (.cells #[.slice none 0 0] 34 (0, 0)) * (own (q + 4) (.cells #[.bool false] 4 (0, 0)) * F))))) := h12.right.eq (by ac_rfl)
      clear h12 h13
      go_wp2_with fail
      refine (bad_yes _ pr cbad).mono ?_
      rintro e w7 ⟨rfl, rfl⟩
      clear cbad
      go_wp2_with fail
      refine (want_no _).mono ?_
      rintro e w8 ⟨rfl, rfl⟩
      dsimp only
      go_wp2_with fail
      refine leaves_cons (f := 64) (args := #[.pointer (some ⟨q, 0, none⟩), .pointer (some ⟨q + 1, 0, none⟩), .pointer (some ⟨q + 2, 0, none⟩), .pointer (some ⟨q + 3, 0, none⟩), .pointer (some ⟨q + 4, 0, none⟩)]) (by simp) (by simp [go_sem]) ?_
      refine (catch_panicking q _ _ _ _ _ ab b.length cb [] u _ _ hbox).mono ?_
      rintro e u' w'' ⟨rfl, rfl, rfl⟩
      have hb1 := ((((hbox).s2.setCell 0 (.slice none 0 0)).s3.setCell 0 (.int .i64 0)).s4.setCell 0 (.slice ab b.length cb)).s5.setCell 0 (.bool false)
      have hb2 : Sat u _ (own (q + 4) (.cells #[.bool false] 4 (0, 0)) * (own (q + 3) (.cells #[.slice ab b.length cb] 34 (0, 0)) * (own (q + 2) (.cells #[.int .i64 0] 2 (0, 0)) * (own (q + 1) (.cells #[.slice none 0 0] 34 (0, 0)) * (own q (.cells #[.slice ab b.length cb] 34 (0, 0)) * F))))) := hb1
      have e4 := hb2.cell 0
      have e3 := hb2.right.cell 0
      have e2 := hb2.right.right.cell 0
      have e1 := hb2.right.right.right.cell 0
      simp only [List.getElem?_toArray, List.getElem?_cons_zero] at e1 e2 e3 e4
      have HB2 := Lib.hid hb2.right.right.right.right.right
      clear hb1 hb2 hbox
      simp [Leaves, settle, results, Tryz.results30, go_sem, e1, e2, e3, e4]
      exact Unf.no HNO.out rfl HB2.out
  refine (rraw_any u _ _ pr b st3 sz h8 (by omega)).mono ?_
  have hst3 : st3 = some 13 := HR3A.out (by omega)
  rintro e w5 (⟨k, a6, c6, hk, _, hkl, rfl, h9⟩ | ⟨hno, _, _⟩)
  case inr =>
    exfalso
    rcases hno 13 hst3 with h | h <;> omega
  have hk13 : k = 13 := by
    rw [hk] at hst3
    exact Option.some.inj hst3
  subst hk13
  simp only [Int.toNat_natCast] at h9
  rw [Int.toNat_natCast]
  clear hk hst3 HR3A HR3B
  obtain ⟨bb, o, c', hv, hcb1, hcb2, _⟩ := (HB.out _ h8.right.right.right.right.right.right).open (by omega)
  cases hv
  have h10 : Sat u w5 (own (q + 1) (.cells #[.slice none 0 0] 34 (0, 0)) * (isR pr b (some (13 + sz)) * (ownB (.slice a6 sz c6) ((b.drop 13).take sz) * (own (q + 2) (.cells #[.int .i64 nn] 2 (0, 0)) * (own q (.cells #[.slice (some ⟨bb, o, none⟩) b.length cb] 34 (0, 0)) * (own (q + 3) (.cells #[.slice none 0 0] 34 (0, 0)) * (own (q + 4) (.cells #[.bool false] 4 (0, 0)) * F))))))) := h9.eq (by ac_rfl)
  have c1 := h10.cell 0
  have f1 := h10.free 0
  have h11 : Sat u (w5.setCell ⟨q + 1, 0, none⟩ (.slice a6 sz c6)) (own (q + 1) (.cells #[.slice a6 sz c6] 34 (0, 0)) * (isR pr b (some (13 + sz)) * (ownB (.slice a6 sz c6) ((b.drop 13).take sz) * (own (q + 2) (.cells #[.int .i64 nn] 2 (0, 0)) * (own q (.cells #[.slice (some ⟨bb, o, none⟩) b.length cb] 34 (0, 0)) * (own (q + 3) (.cells #[.slice none 0 0] 34 (0, 0)) * (own (q + 4) (.cells #[.bool false] 4 (0, 0)) * F))))))) := h10.setCell 0 (.slice a6 sz c6)
  simp only [List.getElem?_toArray, List.getElem?_cons_zero] at c1
  clear h8 h9 h10
  go_wp2_with fail
  refine (rword_any u _ _ pr b (some (13 + sz)) h11.s2 (by omega)).mono ?_
  intro e w6 hg
  obtain ⟨rfl, h12⟩ := hg.rd
  clear hg h11 c1 f1
  have hrd : rdN b (some (13 + sz)) 4 = (num ((b.drop (13 + sz)).take 4), some (13 + sz + 4)) := by unfold rdN; dsimp only; rw [if_pos (by omega)]
  rw [hrd] at h12 ⊢
  clear hrd
  dsimp only
  have hszn : sz = num ((b.drop 9).take 4) := by rw [← HSZ.out, unf_short_ok (by rw [HSZ.out]; exact hfit)]
  have HSZN := Lib.hid hszn
  have hml : num ((b.drop (13 + sz)).take 4) < 4294967296 := by
    have h := num_lt ((b.drop (13 + sz)).take 4)
    have h2 : ((b.drop (13 + sz)).take 4).length = 4 := by rw [List.length_take, List.length_drop]; omega
    rw [h2] at h
    have h4 : (256 : Nat) ^ 4 = 4294967296 := by decide
    omega
  obtain ⟨m, hm⟩ : ∃ m, num ((b.drop (13 + sz)).take 4) = m := ⟨_, rfl⟩
  have HM := Lib.hid hm
  rw [hm] at hml ⊢
  clear hm hszn
  obtain ⟨_, vr, h13⟩ := isR_iff.1 h12
  have cok : w6.cell? ⟨pr, 1, none⟩ = some (.int .i64 ((13 + sz + 4 : Nat) : Int)) := h13.cell 1
  have h14 : Sat u w6 (own q (.cells #[.slice (some ⟨bb, o, none⟩) b.length cb] 34 (0, 0)) * (own (q + 1) (.cells #[.slice a6 sz c6] 34 (0, 0)) * (own (q + 2) (.cells #[.int .i64 nn] 2 (0, 0)) * (own (q + 3) (.cells #[.slice none 0 0] 34 (0, 0)) * (own (q + 4) (.cells #[.bool false] 4 (0, 0)) * (ownB (.slice a6 sz c6) ((b.drop 13).take sz) * F)))))) := h12.right.eq (by ac_rfl)
  clear h12 h13
  have c0 : w6.cell? ⟨q, 0, none⟩ = some (.slice (some ⟨bb, o, none⟩) b.length cb) := h14.cell 0
  have hsumb := (HB.out _ h14.right.right.right.right.right.right).fore (13 + sz) (by omega)
  have z1 : IntKind.i64.wrap (13 + (sz : Int)) = 13 + (sz : Int) := by rw [IntKind.wrap_i64]; omega
  have z2 : (0 : Int) ≤ 13 + (sz : Int) := by omega
  have z3 : (13 + (sz : Int)) ≤ (cb : Int) := by omega
  have z4 : (13 + (sz : Int)).toNat = 13 + sz := by omega
  go_wp2_with fail
  refine (bad_no _ pr _ (by omega) cok).mono ?_
  rintro e w7 ⟨rfl, rfl⟩
  go_wp2_with fail
  refine (sum_any w6 _ _ hsumb).mono ?_
  rintro e w7 ⟨rfl, rfl⟩
  clear cok hsumb
  by_cases hs : m = (sumB (b.take (13 + sz))).toNat
  case neg =>
    have HNO := Lib.hid (unf_sum (tag := tag) (most := most) (b := b) sz HSZN.out (by rw [HM.out]; exact hs))
    have hbox : Sat u w6 (own q (.cells #[.slice (some ⟨bb, o, none⟩) b.length cb] 34 (0, 0)) * (own (q + 1) (.cells #[.slice a6 sz c6] 34 (0, 0)) * (own (q + 2) (.cells #[.int .i64 nn] 2 (0, 0)) * (own (q + 3) (.cells #[.slice none 0 0] 34 (0, 0)) * (own (q + 4) (.cells #[.bool false] 4 (0, 0)) * F))))) := (h14.eq (show _ = ownB _ _ * _ by ac_rfl)).right
    have hne : ((m : Int) == ((sumB (b.take (13 + sz))).toNat : Int)) = false := by
      rw [beq_eq_false_iff_ne]
      omega
    clear h14 c0
    go_wp2_with fail
    refine (want_no _).mono ?_
    rintro e w8 ⟨rfl, rfl⟩
    dsimp only
    go_wp2_with fail
    refine leaves_cons (f := 64) (args := #[.pointer (some ⟨q, 0, none⟩), .pointer (some ⟨q + 1, 0, none⟩), .pointer (some ⟨q + 2, 0, none⟩), .pointer (some ⟨q + 3, 0, none⟩), .pointer (some ⟨q + 4, 0, none⟩)]) (by simp) (by simp [go_sem]) ?_
    refine (catch_panicking q _ _ _ _ _ (some ⟨bb, o, none⟩) b.length cb [] u _ _ hbox).mono ?_
    rintro e u' w'' ⟨rfl, rfl, rfl⟩
    have hb1 := ((((hbox).s2.setCell 0 (.slice none 0 0)).s3.setCell 0 (.int .i64 0)).s4.setCell 0 (.slice (some ⟨bb, o, none⟩) b.length cb)).s5.setCell 0 (.bool false)
    have hb2 : Sat u _ (own (q + 4) (.cells #[.bool false] 4 (0, 0)) * (own (q + 3) (.cells #[.slice (some ⟨bb, o, none⟩) b.length cb] 34 (0, 0)) * (own (q + 2) (.cells #[.int .i64 0] 2 (0, 0)) * (own (q + 1) (.cells #[.slice none 0 0] 34 (0, 0)) * (own q (.cells #[.slice (some ⟨bb, o, none⟩) b.length cb] 34 (0, 0)) * F))))) := hb1
    have e4 := hb2.cell 0
    have e3 := hb2.right.cell 0
    have e2 := hb2.right.right.cell 0
    have e1 := hb2.right.right.right.cell 0
    simp only [List.getElem?_toArray, List.getElem?_cons_zero] at e1 e2 e3 e4
    have HB2 := Lib.hid hb2.right.right.right.right.right
    clear hb1 hb2 hbox
    simp [Leaves, settle, results, Tryz.results30, go_sem, e1, e2, e3, e4]
    exact Unf.no HNO.out rfl HB2.out
  have HYES := Lib.hid (unf_yes (tag := tag) (most := most) (b := b) sz nn HSZN.out HNUM.out hfit HHEAD.out hn1 hn2 (by omega) (by rw [HM.out]; exact hs))
  rw [show w32 (sumB (b.take (13 + sz))) = .int .u32 (m : Int) from by show Value.int _ _ = _; rw [← hs]]
  clear hs
  go_wp2_with fail
  refine (want_yes _).mono ?_
  rintro e w8 ⟨rfl, rfl⟩
  dsimp only
  go_wp2_with fail
  have x1 : IntKind.i64.wrap (17 + (sz : Int)) = 17 + (sz : Int) := by rw [IntKind.wrap_i64]; omega
  have x2 : (0 : Int) ≤ 17 + (sz : Int) := by omega
  have x3 : (17 + (sz : Int)) ≤ (b.length : Int) := by omega
  have x4 : (17 + (sz : Int)).toNat = 17 + sz := by omega
  have x5 : (17 + (sz : Int)) ≤ (cb : Int) := by omega
  clear z1 z2 z3 z4 c0
  refine wp_noPanic ?_
  refine wp_region_seq [(2, true), (3, true), (4, true), (5, true), (6, true), (0, false), (1, false), (7, false), (8, false), (9, false), (10, false)] (fun x => x.cell? ⟨q, 0, none⟩ = some (.slice (some ⟨bb, o, none⟩) b.length cb) ∧ x.cell? ⟨q + 2, 0, none⟩ = some (.int .i64 nn)) (by kernel_rfl) (by kernel_rfl) (fun _ _ _ _ _ h => h) ?_
  simp only [pickOps, Array.getD_eq_getD_getElem?, List.getElem?_toArray, List.getElem?_cons_succ, List.getElem?_cons_zero, Option.getD_some]
  have h15 := h14.drew
  generalize w6.drew = w7 at h15 ⊢
  clear h14
  have hS0 : w7.cell? ⟨q, 0, none⟩ = some (.slice (some ⟨bb, o, none⟩) b.length cb) ∧ w7.cell? ⟨q + 2, 0, none⟩ = some (.int .i64 nn) := ⟨h15.cell 0, h15.right.right.cell 0⟩
  repeat (first
    | (refine wpSeq_run (by rfl) hS0 (fun K hK => ⟨?_, ?_, ?_⟩); rotate_left; (· (intro wS hSw; have e0 := hSw.1; have e2 := hSw.2; go_simp <;> with_reducible rfl)); simp only [Act.put, List.setIfInBounds_toArray, List.set_cons_zero, List.set_cons_succ]; refine hK _ ?_; clear hK K)
    | (refine wpSeq_skip (by rfl) hS0 (fun K hK => ?_); simp only [Act.put, List.setIfInBounds_toArray, List.set_cons_zero, List.set_cons_succ]; refine hK _ ?_; clear hK K))
  have e1 : w7.cell? ⟨q + 1, 0, none⟩ = some (.slice a6 sz c6) := h15.right.cell 0
  generalize hrv : (if cb = 17 + sz then (_ : Option Addr) else _) = ra
  have HRV := Lib.hid hrv
  clear hrv
  refine wpSeq_act (by rfl) (fun K hK => ?_)
  go_simp
  try dsimp only
  try simp only [Act.put, List.setIfInBounds_toArray, List.set_cons_zero, List.set_cons_succ]
  refine hK _ _ (_) ((fun _ h => h)) hS0 ?_
  clear hK K
  refine wpSeq_act (by rfl) (fun K hK => ?_)
  go_simp
  have hxl : ((b.drop 13).take sz).length = sz := by rw [List.length_take, List.length_drop]; omega
  refine (clone_any u w7 _ _ ((b.drop 13).take sz) h15 (by have h := h15.right.right.right.right.right.bytes; exact h) (by omega)).mono ?_
  rintro e w8 ⟨a8, c8, rfl, h16⟩
  rw [hxl] at h16 ⊢
  clear h15 hS0 e1
  have h17 : Sat u w8 (own q (.cells #[.slice (some ⟨bb, o, none⟩) b.length cb] 34 (0, 0)) * (own (q + 1) (.cells #[.slice a6 sz c6] 34 (0, 0)) * (own (q + 2) (.cells #[.int .i64 nn] 2 (0, 0)) * (own (q + 3) (.cells #[.slice none 0 0] 34 (0, 0)) * (own (q + 4) (.cells #[.bool false] 4 (0, 0)) * (ownB (.slice a8 sz c8) ((b.drop 13).take sz) * (ownB (.slice a6 sz c6) ((b.drop 13).take sz) * F))))))) := h16.eq (by ac_rfl)
  clear h16
  try dsimp only
  try simp only [Act.put, List.setIfInBounds_toArray, List.set_cons_zero, List.set_cons_succ]
  refine hK _ _ (_) ((fun _ h => h)) ⟨h17.cell 0, h17.right.right.cell 0⟩ ?_
  clear hK K
  have g1 := h17.right.cell 0
  have k1 := h17.right.free 0
  simp only [List.getElem?_toArray, List.getElem?_cons_zero] at g1
  refine wpSeq_act (by rfl) (fun K hK => ?_)
  go_simp
  have h18 : Sat u (w8.setCell ⟨q + 1, 0, none⟩ (.slice a8 sz c8)) (own (q + 1) (.cells #[.slice a8 sz c8] 34 (0, 0)) * (own q (.cells #[.slice (some ⟨bb, o, none⟩) b.length cb] 34 (0, 0)) * (own (q + 2) (.cells #[.int .i64 nn] 2 (0, 0)) * (own (q + 3) (.cells #[.slice none 0 0] 34 (0, 0)) * (own (q + 4) (.cells #[.bool false] 4 (0, 0)) * (ownB (.slice a8 sz c8) ((b.drop 13).take sz) * (ownB (.slice a6 sz c6) ((b.drop 13).take sz) * F))))))) := h17.s2.setCell 0 (.slice a8 sz c8)
  try dsimp only
  try simp only [Act.put, List.setIfInBounds_toArray, List.set_cons_zero, List.set_cons_succ]
  refine hK _ _ (_) ((fun _ h => h)) ⟨h18.right.cell 0, h18.right.right.cell 0⟩ ?_
  clear hK K
  generalize w8.setCell ⟨q + 1, 0, none⟩ (.slice a8 sz c8) = w9 at h18 ⊢
  clear h17 g1 k1
  have g2 : w9.cell? ⟨q + 2, 0, none⟩ = some (.int .i64 nn) := h18.right.right.cell 0
  have k2 := h18.right.right.free 0
  refine wpSeq_act (by rfl) (fun K hK => ?_)
  go_simp
  have h19 : Sat u (w9.setCell ⟨q + 2, 0, none⟩ (.int .i64 nn)) (own (q + 2) (.cells #[.int .i64 nn] 2 (0, 0)) * (own (q + 1) (.cells #[.slice a8 sz c8] 34 (0, 0)) * (own q (.cells #[.slice (some ⟨bb, o, none⟩) b.length cb] 34 (0, 0)) * (own (q + 3) (.cells #[.slice none 0 0] 34 (0, 0)) * (own (q + 4) (.cells #[.bool false] 4 (0, 0)) * (ownB (.slice a8 sz c8) ((b.drop 13).take sz) * (ownB (.slice a6 sz c6) ((b.drop 13).take sz) * F))))))) := h18.s3.setCell 0 (.int .i64 nn)
  try dsimp only
  try simp only [Act.put, List.setIfInBounds_toArray, List.set_cons_zero, List.set_cons_succ]
  refine hK _ _ (_) ((fun _ h => h)) ⟨h19.right.right.cell 0, h19.cell 0⟩ ?_
  clear hK K
  generalize w9.setCell ⟨q + 2, 0, none⟩ (.int .i64 nn) = w10 at h19 ⊢
  clear h18 g2 k2
  have g3 : w10.cell? ⟨q + 3, 0, none⟩ = some (.slice none 0 0) := h19.right.right.right.cell 0
  have k3 := h19.right.right.right.free 0
  refine wpSeq_act (by rfl) (fun K hK => ?_)
  go_simp
  have h20 : Sat u (w10.setCell ⟨q + 3, 0, none⟩ (.slice ra (b.length - (17 + sz)) (cb - (17 + sz)))) (own (q + 3) (.cells #[.slice ra (b.length - (17 + sz)) (cb - (17 + sz))] 34 (0, 0)) * (own (q + 2) (.cells #[.int .i64 nn] 2 (0, 0)) * (own (q + 1) (.cells #[.slice a8 sz c8] 34 (0, 0)) * (own q (.cells #[.slice (some ⟨bb, o, none⟩) b.length cb] 34 (0, 0)) * (own (q + 4) (.cells #[.bool false] 4 (0, 0)) * (ownB (.slice a8 sz c8) ((b.drop 13).take sz) * (ownB (.slice a6 sz c6) ((b.drop 13).take sz) * F))))))) := h19.s4.setCell 0 (.slice ra (b.length - (17 + sz)) (cb - (17 + sz)))
  try dsimp only
  try simp only [Act.put, List.setIfInBounds_toArray, List.set_cons_zero, List.set_cons_succ]
  refine hK _ _ (_) ((fun _ h => h)) ⟨h20.right.right.right.cell 0, h20.right.cell 0⟩ ?_
  clear hK K
  generalize w10.setCell ⟨q + 3, 0, none⟩ (.slice ra (b.length - (17 + sz)) (cb - (17 + sz))) = w11 at h20 ⊢
  clear h19 g3 k3
  have g4 : w11.cell? ⟨q + 4, 0, none⟩ = some (.bool false) := h20.right.right.right.right.cell 0
  have k4 := h20.right.right.right.right.free 0
  refine wpSeq_act (by rfl) (fun K hK => ?_)
  go_simp
  have h21 : Sat u (w11.setCell ⟨q + 4, 0, none⟩ (.bool true)) (own (q + 4) (.cells #[.bool true] 4 (0, 0)) * (own (q + 3) (.cells #[.slice ra (b.length - (17 + sz)) (cb - (17 + sz))] 34 (0, 0)) * (own (q + 2) (.cells #[.int .i64 nn] 2 (0, 0)) * (own (q + 1) (.cells #[.slice a8 sz c8] 34 (0, 0)) * (own q (.cells #[.slice (some ⟨bb, o, none⟩) b.length cb] 34 (0, 0)) * (ownB (.slice a8 sz c8) ((b.drop 13).take sz) * (ownB (.slice a6 sz c6) ((b.drop 13).take sz) * F))))))) := h20.s5.setCell 0 (.bool true)
  try dsimp only
  try simp only [Act.put, List.setIfInBounds_toArray, List.set_cons_zero, List.set_cons_succ]
  refine hK _ _ (_) ((fun _ h => h)) ⟨h21.right.right.right.right.cell 0, h21.right.right.cell 0⟩ ?_
  clear hK K
  generalize w11.setCell ⟨q + 4, 0, none⟩ (.bool true) = w12 at h21 ⊢
  clear h20 g4 k4
  refine wpSeq_end ?_
  dsimp only
  have e4 : w12.cell? ⟨q + 4, 0, none⟩ = some (.bool true) := h21.cell 0
  have e3 : w12.cell? ⟨q + 3, 0, none⟩ = some (.slice ra (b.length - (17 + sz)) (cb - (17 + sz))) := h21.right.cell 0
  have e2 : w12.cell? ⟨q + 2, 0, none⟩ = some (.int .i64 nn) := h21.right.right.cell 0
  have e1 : w12.cell? ⟨q + 1, 0, none⟩ = some (.slice a8 sz c8) := h21.right.right.right.cell 0
  have H21 := Lib.hid (h21.right.right.right.right.right.eq (show _ = ownB (.slice a6 sz c6) _ * (ownB (.slice a8 sz c8) _ * F) by ac_rfl)).right
  clear h21
  go_wp2_with fail
  refine leaves_cons (f := 64) (args := #[.pointer (some ⟨q, 0, none⟩), .pointer (some ⟨q + 1, 0, none⟩), .pointer (some ⟨q + 2, 0, none⟩), .pointer (some ⟨q + 3, 0, none⟩), .pointer (some ⟨q + 4, 0, none⟩)]) (by simp) (by simp [go_sem]) ?_
  refine (catch_idle _ _ _ _ _ _).mono ?_
  rintro e u' w'' ⟨rfl, rfl, rfl⟩
  simp [Leaves, settle, results, Tryz.results30, go_sem, e1, e2, e3, e4]
  unfold Unf
  rw [HYES.out]
  dsimp only
  have hdl : (b.drop (17 + sz)).length = b.length - (17 + sz) := List.length_drop
  refine ⟨a8, c8, ra, cb - (17 + sz), by rw [hxl, hdl], fun x hx => ?_, by rw [hxl]; exact H21.out⟩
  rw [hdl, ← HRV.out]
  exact hx.rear (17 + sz) hfit
end
end Go.Proofs.YtlfmkiclaijokaaGreatDoor

namespace Go.Proofs.YtlfmkiclaijokaaGreatDoor
open Go.RowKit
set_option linter.unusedVariables false

/-- Rows of bytes that are shared, and where they lie. -/
abbrev RecV : Type := Bs × Value

def roR : List RecV → HProp
  | [] => fact True
  | x :: R => roB x.2 x.1 * roR R

theorem roR_append (L M : List RecV) : roR (L ++ M) = roR L * roR M := by
  induction L with
  | nil =>
    show roR M = fact True * roR M
    funext r
    exact propext ⟨fun h => (star_fact r).2 ⟨trivial, h⟩, fun h => ((star_fact r).1 h).2⟩
  | cons x L ih =>
    show roB x.2 x.1 * roR (L ++ M) = roB x.2 x.1 * roR L * roR M
    rw [ih]
    ac_rfl

theorem roR_at {u w : World} {F : HProp} {k : Nat} {x : RecV} : ∀ {L : List RecV} {k : Nat}, Sat u w (roR L * F) → L[k]? = some x → BytesAt w x.2 x.1
  | [], _, _, hx => by simp at hx
  | y :: L, k, h, hx => by
    have h' : Sat u w (roB y.2 y.1 * (roR L * F)) := h.eq (by show (_ * roR L) * F = _; ac_rfl)
    match k, hx with
    | 0, hx =>
      simp only [List.getElem?_cons_zero, Option.some.injEq] at hx
      subst hx
      exact h'.roB_at
    | k + 1, hx => exact roR_at (k := k) h'.right (by simpa using hx)

structure OkW (W : WalP) : Prop where
  gen : W.gen < 100
  sure : W.sure ≤ 1000000000
  size : W.size ≤ 1000000000
  many : W.recs.length ≤ 1000000
  state : W.state.length ≤ 100000000
  recs : ∀ b ∈ W.recs, b.length ≤ 100000000
  broken0 : -9223372036854775808 ≤ W.broken
  broken1 : W.broken ≤ 9223372036854775807

def logHead (p : Nat) (sv rv : Value) (W : WalP) : Obj := .cells #[.pointer (some ⟨p, 0, none⟩), .int .i64 W.gen, sv, rv, .int .i64 W.sure, .int .i64 W.size, .int .i64 W.broken] 56 (0, 0)

/-- The log W at l, of the disk at p. -/
def isL (l p : Nat) (W : WalP) : HProp := ex fun x : Value × Value × List RecV => fact (OkW W ∧ x.2.2.map (·.1) = W.recs) * (own l (logHead p x.1 x.2.1 W) * (roB x.1 W.state * (ownRow 34 1 x.2.1 x.2.2.length (x.2.2.map (·.2)) * roR x.2.2)))

section
variable {u w : World} {F : HProp} {l p : Nat} {W : WalP}

theorem isL_iff : Sat u w (isL l p W * F) ↔ OkW W ∧ ∃ (a1 : Option Addr) (c1 : Nat) (a2 : Option Addr) (c2 : Nat) (R : List RecV), R.map (·.1) = W.recs ∧
    Sat u w (own l (logHead p (.slice a1 W.state.length c1) (.slice a2 R.length c2) W) * (roB (.slice a1 W.state.length c1) W.state * (ownRow 34 1 (.slice a2 R.length c2) R.length (R.map (·.2)) * (roR R * F)))) := by
  unfold isL
  rw [Sat.ex_iff]
  constructor
  · rintro ⟨⟨sv, rv, R⟩, h⟩
    obtain ⟨⟨h1, h2⟩, h3⟩ := Sat.fact_iff.1 h.as
    have h4 : Sat u w (own l (logHead p sv rv W) * (roB sv W.state * (ownRow 34 1 rv R.length (R.map (·.2)) * (roR R * F)))) := h3.eq (by ac_rfl)
    obtain ⟨a1, c1, rfl, _, _⟩ := RowAt.len h4.right.roB_at
    obtain ⟨a2, c2, rfl, _, _⟩ := RowAt.len h4.right.right.row_at
    exact ⟨h1, a1, c1, a2, c2, R, h2, h4⟩
  · rintro ⟨h1, a1, c1, a2, c2, R, h2, h3⟩
    refine ⟨⟨.slice a1 W.state.length c1, .slice a2 R.length c2, R⟩, ?_⟩
    rw [star_assoc]
    exact Sat.fact_iff.2 ⟨⟨h1, h2⟩, h3.eq (by ac_rfl)⟩

theorem isL_mk {sv rv : Value} {R : List RecV} (h1 : OkW W) (h2 : R.map (·.1) = W.recs) (h3 : Sat u w (own l (logHead p sv rv W) * (roB sv W.state * (ownRow 34 1 rv R.length (R.map (·.2)) * (roR R * F))))) : Sat u w (isL l p W * F) := by
  unfold isL
  rw [Sat.ex_iff]
  refine ⟨⟨sv, rv, R⟩, ?_⟩
  rw [star_assoc]
  exact Sat.fact_iff.2 ⟨⟨h1, h2⟩, h3.eq (by ac_rfl)⟩

/-- The cells of a log. -/
theorem isL_cells (h : Sat u w (isL l p W * F)) : OkW W ∧ w.cell? ⟨l, 0, none⟩ = some (.pointer (some ⟨p, 0, none⟩)) ∧ w.cell? ⟨l, 1, none⟩ = some (.int .i64 W.gen) ∧ (∃ a c, w.cell? ⟨l, 2, none⟩ = some (.slice a W.state.length c) ∧ BytesAt w (.slice a W.state.length c) W.state) ∧
    (∃ a c, w.cell? ⟨l, 3, none⟩ = some (.slice a W.recs.length c)) ∧ w.cell? ⟨l, 4, none⟩ = some (.int .i64 W.sure) ∧ w.cell? ⟨l, 5, none⟩ = some (.int .i64 W.size) ∧ w.cell? ⟨l, 6, none⟩ = some (.int .i64 W.broken) := by
  obtain ⟨h1, a1, c1, a2, c2, R, h2, h3⟩ := isL_iff.1 h
  have e : W.recs.length = R.length := by rw [← h2, List.length_map]
  rw [e]
  exact ⟨h1, h3.cell 0, h3.cell 1, ⟨a1, c1, h3.cell 2, h3.right.roB_at⟩, ⟨a2, c2, h3.cell 3⟩, h3.cell 4, h3.cell 5, h3.cell 6⟩
end

section
variable (u w : World) (F : HProp) (l p : Nat) (W : WalP)

theorem lbroken_any (hs : Sat u w (isL l p W * F)) : Calls Tryz.prog 22 #[.pointer (some ⟨l, 0, none⟩)] w fun e w' => e = .returned (.int .i64 W.broken) ∧ w = w' := by
  obtain ⟨_, _, _, _, _, _, _, c6⟩ := isL_cells hs
  go_enter Tryz.func22, Tryz.ntmps22
  go_wp2_with fail
  go_ret
  exact ⟨rfl, rfl⟩

theorem lgeneration_any (hs : Sat u w (isL l p W * F)) : Calls Tryz.prog 17 #[.pointer (some ⟨l, 0, none⟩)] w fun e w' => e = .returned (.int .i64 W.gen) ∧ w = w' := by
  obtain ⟨_, _, c1, _, _, _, _, _⟩ := isL_cells hs
  go_enter Tryz.func17, Tryz.ntmps17
  go_wp2_with fail
  go_ret
  exact ⟨rfl, rfl⟩

theorem lsure_any (hs : Sat u w (isL l p W * F)) : Calls Tryz.prog 18 #[.pointer (some ⟨l, 0, none⟩)] w fun e w' => e = .returned (.int .i64 W.sure) ∧ w = w' := by
  obtain ⟨_, _, _, _, _, c4, _, _⟩ := isL_cells hs
  go_enter Tryz.func18, Tryz.ntmps18
  go_wp2_with fail
  go_ret
  exact ⟨rfl, rfl⟩

theorem lcount_any (hs : Sat u w (isL l p W * F)) : Calls Tryz.prog 16 #[.pointer (some ⟨l, 0, none⟩)] w fun e w' => e = .returned (.int .i64 W.recs.length) ∧ w = w' := by
  obtain ⟨_, _, _, _, ⟨a, c, c3⟩, _, _, _⟩ := isL_cells hs
  go_enter Tryz.func16, Tryz.ntmps16
  go_wp2_with fail
  go_ret
  exact ⟨rfl, rfl⟩

theorem lstate_any (hs : Sat u w (isL l p W * F)) : Calls Tryz.prog 15 #[.pointer (some ⟨l, 0, none⟩)] w fun e w' => ∃ a c, e = .returned (.slice a W.state.length c) ∧ Sat u w' (ownB (.slice a W.state.length c) W.state * (isL l p W * F)) := by
  obtain ⟨ok, _, _, ⟨a, c, c2, hb⟩, _, _, _, _⟩ := isL_cells hs
  have hst := ok.state
  go_enter Tryz.func15, Tryz.ntmps15
  go_wp2_with fail
  refine (clone_any u w _ _ W.state hs hb (by omega)).mono ?_
  rintro e w1 ⟨a1, c1, rfl, h1⟩
  dsimp only
  have H1 := Lib.hid h1
  clear hs h1 hb c2
  go_wp2_with fail
  go_ret
  exact ⟨a1, c1, rfl, H1.out⟩

theorem lmet_any (e : Int) (h0 : -9223372036854775808 ≤ e) (h1 : e ≤ 9223372036854775807) (hs : Sat u w (isL l p W * F)) :
    Calls Tryz.prog 36 #[.pointer (some ⟨l, 0, none⟩), .int .i64 e] w fun r w' => r = .returned (.int .i64 e) ∧ Sat u w' (isL l p (metW e W) * F) := by
  by_cases he : e = 40
  · subst he
    obtain ⟨ok, a1, c1, a2, c2, R, h2, h3⟩ := isL_iff.1 hs
    have c6 := h3.cell 6
    have f6 := h3.free 6
    have h4 := h3.setCell 6 (.int .i64 40)
    have H5 := Lib.hid (isL_mk (W := metW 40 W) ⟨ok.gen, ok.sure, ok.size, ok.many, ok.state, ok.recs, by show (-9223372036854775808 : Int) ≤ 40; decide, by show (40 : Int) ≤ 9223372036854775807; decide⟩ h2 h4)
    clear hs h3 h4 h2
    go_enter Tryz.func36, Tryz.ntmps36
    go_wp2_with fail
    go_ret
    exact ⟨rfl, H5.out⟩
  · have e2 : metW e W = W := by unfold metW; rw [if_neg he]
    rw [e2]
    have hb : (e == 40) = false := by rw [beq_eq_false_iff_ne]; exact he
    have H := Lib.hid hs
    clear hs e2
    go_enter Tryz.func36, Tryz.ntmps36
    go_wp2_with fail
    go_ret
    exact ⟨rfl, H.out⟩

theorem lthere_any (d : DiskP) (n : Bs) (hl : n.length ≤ 1000000000) (hs : Sat u w (isL l p W * (isD p d * F))) :
    Calls Tryz.prog 38 #[.pointer (some ⟨l, 0, none⟩), .string (str n)] w fun r w' => r = .returned (.bool (decide ((readD d n).2 = 0))) ∧ Sat u w' (isL l p W * (isD p d * F)) := by
  obtain ⟨_, c0, _, _, _, _, _, _⟩ := isL_cells hs
  go_enter Tryz.func38, Tryz.ntmps38
  go_wp2_with fail
  refine (dread_any u _ _ p d n hl hs.s2).mono ?_
  rintro e w1 ⟨a, c, rfl, h2⟩
  dsimp only
  have H2 := Lib.hid h2.right.s2
  clear hs h2 c0
  obtain ⟨x, hx⟩ : ∃ x, (readD d n).2 = x := ⟨_, rfl⟩
  rw [hx]
  have HX := Lib.hid hx
  clear hx
  go_wp2_with fail
  go_ret
  rw [HX.out]
  exact ⟨rfl, H2.out⟩
end
end Go.Proofs.YtlfmkiclaijokaaGreatDoor
