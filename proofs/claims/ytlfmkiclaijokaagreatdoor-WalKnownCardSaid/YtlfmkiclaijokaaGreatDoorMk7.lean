/- slices.Clone at bytes, the writer's Out, and the reader: Open, Bad, Left, stands. fields.Reader.Raw. crc.on, off, behind, Sum. -/
import Derived.Test.YtlfmkiclaijokaaGreatDoorMk6
import Derived.Deep.QuietTactic
import Derived.BigQuiet
import Derived.StillTailTactics
import Derived.WalkLawsBesides
import Derived.Lib.Hide
import Derived.IntWalk
import Derived.Test.YtlfmkiclaijokaaGreatDoorMk3
import Derived.Laws.BitsAllLaws
namespace Go.Proofs.YtlfmkiclaijokaaGreatDoor
open Go.RowKit

theorem Sat.emptyLit {u w : World} {F : HProp} {e : TypeId} (h : Sat u w F) : Sat u (w.alloc (.cells #[] e)) (ownRow e 1 (.slice (some ⟨w.heap.size, 0, none⟩) 0 0) 0 [] * F) :=
  Sat.row_mk (h.alloc _) (Nat.le_refl _) (by decide) rfl rfl

theorem RowAt.alloc {w : World} {v : Value} {m : Nat} {xs : List Value} (h : RowAt w v m xs) (o : Obj) : RowAt (w.alloc o) v m xs := by
  rcases h with h | ⟨a, c, h1, h2, h3, h4⟩
  · exact .inl h
  · exact .inr ⟨a, c, h1, h2, h3, fun j y hy => (World.cell?_alloc_lt w o _ (World.block_lt_of_cell? w _ (h4 j y hy))).trans (h4 j y hy)⟩

set_option maxHeartbeats 400000 in
theorem clone_nil (w : World) : Calls Tryz.prog 45 #[.slice none 0 0] w fun e w' => e = .returned (.slice none 0 0) ∧ w = w' := by
  have e1 := fun w => Lib.run_eql_slice_nil (P := Tryz.prog) w 34 5 none 0 0 0 0 Tryz.underlying34
  go_enter Tryz.func45, Tryz.ntmps45
  go_wp2
  go_ret
  exact ⟨rfl, rfl⟩

set_option maxHeartbeats 400000 in
theorem clone_some (u w : World) (F : HProp) (a : Addr) (n c : Nat) (xs : List UInt8) (hs : Sat u w F) (hb : BytesAt w (.slice (some a) n c) xs) (hsz : xs.length ≤ 1000000000) :
    Calls Tryz.prog 45 #[.slice (some a) n c] w fun e w' => ∃ a' c', e = .returned (.slice a' xs.length c') ∧ Sat u w' (ownB (.slice a' xs.length c') xs * F) := by
  obtain ⟨i0, hi, hz0, hz1, hz2⟩ := info_parts info_u8
  have e1 := fun w => Lib.run_eql_slice_nil (P := Tryz.prog) w 34 5 (some a) n c 0 0 Tryz.underlying34
  have h1 := hs.emptyLit (e := 5)
  have hb' : RowAt w (.slice (some a) n c) xs.length (xs.map B) := hb
  have hb2 := hb'.alloc (.cells #[] 5)
  go_enter Tryz.func45, Tryz.ntmps45
  go_wp2_with (at_builtin; refine wpList_append_sl rfl _ _ 34 rfl i0 (.int .u8 0) Tryz.underlying34 hi hz0 hz1 hz2 rfl (by decide) rfl rfl h1 hb2 (by simp) (B_one xs) (by omega) ?_; intro a' c' w1 h2 hx; clear hx)
  go_ret
  exact ⟨a', c', by simp, by simpa [ownB] using h2⟩

theorem clone_any (u w : World) (F : HProp) (v : Value) (xs : List UInt8) (hs : Sat u w F) (hb : BytesAt w v xs) (hsz : xs.length ≤ 1000000000) :
    Calls Tryz.prog 45 #[v] w fun e w' => ∃ a' c', e = .returned (.slice a' xs.length c') ∧ Sat u w' (ownB (.slice a' xs.length c') xs * F) := by
  rcases hb with ⟨rfl, hl, hx⟩ | ⟨a, c, rfl, h⟩
  · have : xs = [] := List.eq_nil_of_length_eq_zero hl
    subst this
    exact (clone_nil w).mono fun e w' ⟨he, hw⟩ => ⟨none, 0, he, by subst hw; exact hs.row_nil⟩
  · exact clone_some u w F a _ c xs hs (.inr ⟨a, c, rfl, h⟩) hsz

set_option maxHeartbeats 400000 in
theorem out_any (u w : World) (F : HProp) (p : Nat) (xs : List UInt8) (hs : Sat u w (isW p xs * F)) (hsz : xs.length ≤ 1000000000) :
    Calls Tryz.prog 84 #[.pointer (some ⟨p, 0, none⟩)] w fun e w' => ∃ a' c', e = .returned (.slice a' xs.length c') ∧ Sat u w' (ownB (.slice a' xs.length c') xs * (isW p xs * F)) := by
  obtain ⟨v, h0⟩ := isW_iff.1 hs
  have c0 : w.cell? ⟨p, 0, none⟩ = some v := h0.cell 0
  have hb := h0.s2.bytes
  go_enter Tryz.func84, Tryz.ntmps84
  go_wp2_with fail
  refine (clone_any u _ _ v xs hs hb hsz).mono ?_
  rintro e w1 ⟨a', c', rfl, h2⟩
  go_wp2
  go_ret
  exact ⟨a', c', by simp, h2⟩

/-- A reader of all; k: how many stand ahead of its place; none: it has fallen. -/
def atOf : Option Nat → Int
  | none => -1
  | some k => k

def isR (p : Nat) (all : List UInt8) (st : Option Nat) : HProp :=
  ex fun v => own p (.cells #[v, .int .i64 (atOf st)] 140 (0, 0)) * (ownB v all * fact (∀ k, st = some k → k ≤ all.length))

theorem isR_iff {u w : World} {F : HProp} {p : Nat} {all : List UInt8} {st : Option Nat} : Sat u w (isR p all st * F) ↔
    (∀ k, st = some k → k ≤ all.length) ∧ ∃ v, Sat u w (own p (.cells #[v, .int .i64 (atOf st)] 140 (0, 0)) * (ownB v all * F)) := by
  unfold isR
  rw [Sat.ex_iff]
  constructor
  · rintro ⟨v, h⟩
    have h' : Sat u w (fact (∀ k, st = some k → k ≤ all.length) * (own p (.cells #[v, .int .i64 (atOf st)] 140 (0, 0)) * (ownB v all * F))) := h.eq (by ac_rfl)
    exact ⟨(Sat.fact_iff.1 h').1, v, (Sat.fact_iff.1 h').2⟩
  · rintro ⟨hk, v, h⟩
    exact ⟨v, (Sat.fact_iff.2 ⟨hk, h⟩).eq (by ac_rfl)⟩

set_option maxHeartbeats 400000 in
theorem open_any (u w : World) (F : HProp) (v : Value) (xs : List UInt8) (hs : Sat u w F) (hb : BytesAt w v xs) (hsz : xs.length ≤ 1000000000) :
    Calls Tryz.prog 65 #[v] w fun e w' => ∃ p, e = .returned (.pointer (some ⟨p, 0, none⟩)) ∧ Sat u w' (isR p xs (some 0) * F) := by
  go_enter Tryz.func65, Tryz.ntmps65
  go_wp2_with fail
  refine (clone_any u _ _ v xs hs hb hsz).mono ?_
  rintro e w1 ⟨a', c', rfl, h2⟩
  go_wp2
  go_ret
  exact ⟨w1.heap.size, by simp, isR_iff.2 ⟨by simp, _, h2.alloc _⟩⟩

set_option maxHeartbeats 400000 in
theorem bad_yes (w : World) (p : Nat) (hc : w.cell? ⟨p, 1, none⟩ = some (.int .i64 (-1))) :
    Calls Tryz.prog 71 #[.pointer (some ⟨p, 0, none⟩)] w fun e w' => e = .returned (.bool true) ∧ w = w' := by
  go_enter Tryz.func71, Tryz.ntmps71
  go_wp2
  go_ret
  exact ⟨rfl, rfl⟩

set_option maxHeartbeats 400000 in
theorem bad_no (w : World) (p : Nat) (k : Int) (hk : 0 ≤ k) (hc : w.cell? ⟨p, 1, none⟩ = some (.int .i64 k)) :
    Calls Tryz.prog 71 #[.pointer (some ⟨p, 0, none⟩)] w fun e w' => e = .returned (.bool false) ∧ w = w' := by
  have hk' : (k == -1) = false := beq_eq_false_iff_ne.2 (by omega)
  go_enter Tryz.func71, Tryz.ntmps71
  go_wp2
  go_ret
  exact ⟨rfl, rfl⟩

set_option maxHeartbeats 400000 in
theorem left_bad (w : World) (p : Nat) (hc : w.cell? ⟨p, 1, none⟩ = some (.int .i64 (-1))) :
    Calls Tryz.prog 130 #[.pointer (some ⟨p, 0, none⟩)] w fun e w' => e = .returned (.int .i64 0) ∧ w = w' := by
  go_enter Tryz.func130, Tryz.ntmps130
  go_wp2_with (go_at_call 71; refine (bad_yes _ p hc).mono ?_; rintro e w' ⟨rfl, rfl⟩)
  go_ret
  exact ⟨rfl, rfl⟩

set_option maxHeartbeats 400000 in
theorem left_ok (w : World) (p : Nat) (k n c : Nat) (a : Option Addr) (hkn : k ≤ n) (hn : n ≤ 1000000000) (hc0 : w.cell? ⟨p, 0, none⟩ = some (.slice a n c)) (hc : w.cell? ⟨p, 1, none⟩ = some (.int .i64 k)) :
    Calls Tryz.prog 130 #[.pointer (some ⟨p, 0, none⟩)] w fun e w' => e = .returned (.int .i64 ((n - k : Nat) : Int)) ∧ ∃ m, w' = w.drewN m := by
  go_enter Tryz.func130, Tryz.ntmps130
  go_wp2_with (go_at_call 71; refine (bad_no _ p k (by omega) hc).mono ?_; rintro e w' ⟨rfl, rfl⟩)
  go_quiet (fail)
  go_wp2
  go_ret
  exact ⟨by rw [Int.ofNat_sub hkn]; rfl, _, rfl⟩

theorem isR_cells {u w : World} {F : HProp} {p : Nat} {all : List UInt8} {st : Option Nat} (h : Sat u w (isR p all st * F)) :
    ∃ a c, w.cell? ⟨p, 0, none⟩ = some (.slice a all.length c) ∧ w.cell? ⟨p, 1, none⟩ = some (.int .i64 (atOf st)) ∧ BytesAt w (.slice a all.length c) all ∧ all.length ≤ c ∧
      Sat u w (own p (.cells #[.slice a all.length c, .int .i64 (atOf st)] 140 (0, 0)) * (ownB (.slice a all.length c) all * F)) := by
  obtain ⟨_, v, h0⟩ := isR_iff.1 h
  have hb := h0.s2.bytes
  obtain ⟨a, c, rfl, hc, _⟩ := RowAt.len hb
  exact ⟨a, c, h0.cell 0, h0.cell 1, hb, hc, h0⟩

set_option maxHeartbeats 400000 in
theorem stands_bad (w : World) (p : Nat) (n : Int) (hc : w.cell? ⟨p, 1, none⟩ = some (.int .i64 (-1))) :
    Calls Tryz.prog 112 #[.pointer (some ⟨p, 0, none⟩), .int .i64 n] w fun e w' => e = .returned (.bool false) ∧ w = w' := by
  go_enter Tryz.func112, Tryz.ntmps112
  go_wp2_with (go_at_call 71; refine (bad_yes _ p hc).mono ?_; rintro e w' ⟨rfl, rfl⟩)
  go_ret
  exact ⟨rfl, rfl⟩

set_option maxHeartbeats 400000 in
theorem stands_yes (w : World) (p : Nat) (k len c : Nat) (n : Int) (a : Option Addr) (h0 : 0 ≤ n) (hkn : k + n ≤ len) (hn : len ≤ 1000000000) (hc0 : w.cell? ⟨p, 0, none⟩ = some (.slice a len c)) (hc : w.cell? ⟨p, 1, none⟩ = some (.int .i64 k)) :
    Calls Tryz.prog 112 #[.pointer (some ⟨p, 0, none⟩), .int .i64 n] w fun e w' => e = .returned (.bool true) ∧ ∃ m, w' = w.drewN m := by
  have hn0 : decide (n < 0) = false := by simpa using h0
  have hb' : ((k : Int) != -1) = true := by simp
  have hle : ¬ (((len - k : Nat) : Int) < n) := by omega
  go_enter Tryz.func112, Tryz.ntmps112
  go_wp2_with (first
    | (go_at_call 71; refine (bad_no _ p k (by omega) hc).mono ?_; rintro e w' ⟨rfl, rfl⟩)
    | (go_at_call 130; refine (left_ok _ p k len c a (by omega) hn hc0 hc).mono ?_; rintro e w' ⟨rfl, m, rfl⟩))
  go_ret
  exact ⟨rfl, _, rfl⟩

set_option maxHeartbeats 400000 in
theorem stands_no (w : World) (p : Nat) (k len c : Nat) (n : Int) (a : Option Addr) (hkn : k ≤ len) (h0 : n < 0 ∨ len < k + n) (hn : len ≤ 1000000000) (hc0 : w.cell? ⟨p, 0, none⟩ = some (.slice a len c)) (hc : w.cell? ⟨p, 1, none⟩ = some (.int .i64 k)) (hf : w.frozen? ⟨p, 1, none⟩ = false) :
    Calls Tryz.prog 112 #[.pointer (some ⟨p, 0, none⟩), .int .i64 n] w fun e w' => e = .returned (.bool false) ∧ ∃ m, w' = (w.setCell ⟨p, 1, none⟩ (.int .i64 (-1))).drewN m := by
  by_cases hneg : n < 0
  · have hn0 : decide (n < 0) = true := by simpa using hneg
    go_enter Tryz.func112, Tryz.ntmps112
    go_wp2_with (first
      | (go_at_call 71; refine (bad_no _ p k (by omega) hc).mono ?_; rintro e w' ⟨rfl, rfl⟩))
    go_ret
    exact ⟨rfl, 0, rfl⟩
  · have hn0 : decide (n < 0) = false := by simpa using hneg
    have hle : (((len - k : Nat) : Int) < n) := by omega
    go_enter Tryz.func112, Tryz.ntmps112
    go_wp2_with (first
      | (go_at_call 71; refine (bad_no _ p k (by omega) hc).mono ?_; rintro e w' ⟨rfl, rfl⟩)
      | (go_at_call 130; refine (left_ok _ p k len c a (by omega) hn hc0 hc).mono ?_; rintro e w' ⟨rfl, m, rfl⟩))
    go_ret
    exact ⟨rfl, m, rfl⟩

/-- In the reader's own words. -/
theorem stands_in (u w : World) (F : HProp) (p : Nat) (all : List UInt8) (st : Option Nat) (n : Int) (hs : Sat u w (isR p all st * F)) (hsz : all.length ≤ 1000000000) :
    Calls Tryz.prog 112 #[.pointer (some ⟨p, 0, none⟩), .int .i64 n] w fun e w' =>
      (∃ k : Nat, st = some k ∧ 0 ≤ n ∧ k + n ≤ all.length ∧ e = .returned (.bool true) ∧ Sat u w' (isR p all st * F)) ∨
      ((∀ k : Nat, st = some k → n < 0 ∨ all.length < k + n) ∧ e = .returned (.bool false) ∧ Sat u w' (isR p all none * F)) := by
  obtain ⟨a, c, hc0, hc1, hb, hc, h0⟩ := isR_cells hs
  have hk := (isR_iff.1 hs).1
  cases st with
  | none => exact (stands_bad w p n hc1).mono fun e w' ⟨he, hw⟩ => .inr ⟨by simp, he, hw ▸ hs⟩
  | some k =>
    have hkl := hk k rfl
    by_cases hin : 0 ≤ n ∧ k + n ≤ all.length
    · exact (stands_yes w p k _ c n a hin.1 hin.2 hsz hc0 hc1).mono fun e w' ⟨he, m, hw⟩ => .inl ⟨k, rfl, hin.1, hin.2, he, hw ▸ hs.drewN m⟩
    · refine (stands_no w p k _ c n a hkl (by omega) hsz hc0 hc1 (h0.free 1)).mono fun e w' ⟨he, m, hw⟩ => .inr ⟨fun k' hk' => ?_, he, ?_⟩
      · cases hk'; omega
      · subst hw
        exact isR_iff.2 ⟨by simp, _, by simpa [atOf] using (h0.setCell 1 (.int .i64 (-1))).drewN m⟩

/-- The cells of a row of bytes that is ours. -/
theorem Sat.byteCells {u w : World} {F : HProp} {a : Option Addr} {n c : Nat} {xs : List UInt8} (h : Sat u w (ownB (.slice a n c) xs * F)) (hx : xs ≠ []) :
    ∃ g, a = some ⟨g, 0, none⟩ ∧ n = xs.length ∧ n ≤ c ∧ c ≤ maxLen ∧ ∀ (i : Nat) (y : UInt8), xs[i]? = some y → w.cell? ⟨g, i, none⟩ = some (.int .u8 y.toNat) := by
  rcases Sat.row_iff.1 h with ⟨_, _, hx', _⟩ | ⟨g, cap, cur, hv, a1, a2, a3, a4, _, h0⟩
  · exact absurd (List.map_eq_nil_iff.1 hx') hx
  · cases hv
    refine ⟨g, rfl, rfl, a1, a2, fun i y hy => ?_⟩
    have hy' : (xs.map B)[i]? = some (B y) := by simp [hy]
    rw [h0.cell]
    rw [← a4, List.getElem?_take] at hy'
    split at hy'
    · simpa [B] using hy'
    · cases hy'

theorem num_one (l : List UInt8) (k : Nat) (x : UInt8) (hx : l[k]? = some x) : num ((l.drop k).take 1) = x.toNat := by
  have : (l.drop k).take 1 = [x] := by
    obtain ⟨h, rfl⟩ := List.getElem?_eq_some_iff.1 hx
    rw [List.drop_eq_getElem_cons h]
    rfl
  rw [this]
  simp [num]

/-- What a reader answers that is asked for a number of m bytes. -/
def Got (u : World) (F : HProp) (p : Nat) (all : List UInt8) (st : Option Nat) (m : Nat) (kd : IntKind) (e : Ending) (w' : World) : Prop :=
  (∃ k : Nat, st = some k ∧ k + m ≤ all.length ∧ e = .returned (.int kd (num ((all.drop k).take m) : Nat)) ∧ Sat u w' (isR p all (some (k + m)) * F)) ∨
  ((∀ k : Nat, st = some k → all.length < k + m) ∧ e = .returned (.int kd 0) ∧ Sat u w' (isR p all none * F))

set_option maxHeartbeats 400000 in
theorem rbyte_any (u w : World) (F : HProp) (p : Nat) (all : List UInt8) (st : Option Nat) (hs : Sat u w (isR p all st * F)) (hsz : all.length ≤ 1000000000) :
    Calls Tryz.prog 67 #[.pointer (some ⟨p, 0, none⟩)] w (Got u F p all st 1 .u8) := by
  go_enter Tryz.func67, Tryz.ntmps67
  go_wp2_with fail
  refine (stands_in u w F p all st 1 hs hsz).mono ?_
  rintro e w1 (⟨k, rfl, _, hk, rfl, h1⟩ | ⟨hk, rfl, h1⟩)
  · obtain ⟨a, c, hc0, hc1, hb, hc, h2⟩ := isR_cells h1
    simp only [atOf] at hc1 h2
    have hf1 := h2.free 1
    obtain ⟨x, hx⟩ : ∃ x, all[k]? = some x := ⟨all[k]'(by omega), by simp⟩
    go_wp2
    have h3 := h2.setCell 1 (.int .i64 ((k : Int) + 1))
    generalize w1.setCell ⟨p, 1, none⟩ (.int .i64 ((k : Int) + 1)) = w2 at h3 ⊢
    have d0 : w2.cell? ⟨p, 0, none⟩ = some (.slice a all.length c) := h3.cell 0
    have d1 : w2.cell? ⟨p, 1, none⟩ = some (.int .i64 ((k : Int) + 1)) := h3.cell 1
    obtain ⟨g, rfl, _, _, hcm, hg⟩ := h3.s2.byteCells (by intro e; subst e; simp at hx)
    have d2 := hg k x hx
    have hlt : (k : Int) < all.length := by omega
    clear hg hc0 hc1 hb hs h1 hf1
    go_quiet (fail)
    go_wp2
    go_ret
    refine .inl ⟨k, rfl, by omega, ?_, isR_iff.2 ⟨by intro k' e; cases e; omega, _, by simpa [atOf] using h3.drewN nq⟩⟩
    rw [num_one all k x hx]
    rfl
  · go_wp2
    go_ret
    exact .inr ⟨fun k h => by have := hk k h; omega, rfl, h1⟩

theorem num_two (l : List UInt8) (k m : Nat) (h : k + (m + m) ≤ l.length) : num ((l.drop k).take (m + m)) = num ((l.drop k).take m) * 256 ^ m + num ((l.drop (k + m)).take m) := by
  rw [List.take_add, num_append, List.drop_drop, List.length_take, List.length_drop, Nat.min_eq_left (by omega)]

theorem num_take_lt (l : List UInt8) (m : Nat) : num (l.take m) < 256 ^ m :=
  Nat.lt_of_lt_of_le (num_lt _) (Nat.pow_le_pow_right (by decide) (by simp; omega))

theorem or_u16 (a b : Nat) (ha : a < 256) (hb : b < 256) : bits .or .u16 ((a : Int) * 256) (b : Int) = (a : Int) * 256 + (b : Int) := by
  have h := u16_or_nat (a * 256) b (by omega) (by omega)
  have e : a * 256 ||| b = a * 256 + b := by
    have := Nat.two_pow_add_eq_or_of_lt (i := 8) (b := b) hb a
    rw [Nat.mul_comm a 256]
    exact this.symm
  rw [e] at h
  simpa using h

theorem or_u32 (a b : Nat) (ha : a < 65536) (hb : b < 65536) : bits .or .u32 ((a : Int) * 65536) (b : Int) = (a : Int) * 65536 + (b : Int) := by
  have h := u32_or_nat (a * 65536) b (by omega) (by omega)
  have e : a * 65536 ||| b = a * 65536 + b := by
    have := Nat.two_pow_add_eq_or_of_lt (i := 16) (b := b) hb a
    rw [Nat.mul_comm a 65536]
    exact this.symm
  rw [e] at h
  simpa using h

theorem or_u64 (a b : Nat) (ha : a < 4294967296) (hb : b < 4294967296) : bits .or .u64 ((a : Int) * 4294967296) (b : Int) = (a : Int) * 4294967296 + (b : Int) := by
  have h := u64_or_nat (a * 4294967296) b (by omega) (by omega)
  have e : a * 4294967296 ||| b = a * 4294967296 + b := by
    have := Nat.two_pow_add_eq_or_of_lt (i := 32) (b := b) hb a
    rw [Nat.mul_comm a 4294967296]
    exact this.symm
  rw [e] at h
  simpa using h

set_option maxHeartbeats 400000 in
theorem rshort_any (u w : World) (F : HProp) (p : Nat) (all : List UInt8) (st : Option Nat) (hs : Sat u w (isR p all st * F)) (hsz : all.length ≤ 1000000000) :
    Calls Tryz.prog 113 #[.pointer (some ⟨p, 0, none⟩)] w (Got u F p all st 2 .u16) := by
  go_enter Tryz.func113, Tryz.ntmps113
  go_wp2_with fail
  refine (stands_in u w F p all st 2 hs hsz).mono ?_
  rintro e w1 (⟨k, rfl, _, hk, rfl, h1⟩ | ⟨hk, rfl, h1⟩)
  · go_wp2_with fail
    refine (rbyte_any u w1 F p all (some k) h1 hsz).mono ?_
    rintro e w2 (⟨k', hk', _, rfl, h2⟩ | ⟨hk', _⟩)
    · cases hk'
      have b1 : num ((all.drop k).take 1) < 256 := num_take_lt (all.drop k) 1
      have b2 : num ((all.drop (k + 1)).take 1) < 256 := num_take_lt (all.drop (k + 1)) 1
      have H : num ((all.drop k).take 2) = num ((all.drop k).take 1) * 256 + num ((all.drop (k + 1)).take 1) := num_two all k 1 (by omega)
      generalize num ((all.drop k).take 1) = n1 at b1 H ⊢
      have H1 := Lib.hid H
      clear H
      go_wp2_with fail
      refine (rbyte_any u w2 F p all (some (k + 1)) h2 hsz).mono ?_
      rintro e w3 (⟨k', hk', _, rfl, h3⟩ | ⟨hk', _⟩)
      · cases hk'
        generalize num ((all.drop (k + 1)).take 1) = n2 at b2 H1 ⊢
        go_wp2
        go_ret
        refine .inl ⟨k, rfl, by omega, ?_, h3⟩
        rw [H1.out]
        simp [Array.getD, or_u16 n1 n2 b1 b2]
      · exact absurd (hk' _ rfl) (by omega)
    · exact absurd (hk' k rfl) (by omega)
  · go_wp2
    go_ret
    exact .inr ⟨fun k h => by have := hk k h; omega, rfl, h1⟩

set_option maxHeartbeats 400000 in
theorem rword_any (u w : World) (F : HProp) (p : Nat) (all : List UInt8) (st : Option Nat) (hs : Sat u w (isR p all st * F)) (hsz : all.length ≤ 1000000000) :
    Calls Tryz.prog 69 #[.pointer (some ⟨p, 0, none⟩)] w (Got u F p all st 4 .u32) := by
  go_enter Tryz.func69, Tryz.ntmps69
  go_wp2_with fail
  refine (stands_in u w F p all st 4 hs hsz).mono ?_
  rintro e w1 (⟨k, rfl, _, hk, rfl, h1⟩ | ⟨hk, rfl, h1⟩)
  · go_wp2_with fail
    refine (rshort_any u w1 F p all (some k) h1 hsz).mono ?_
    rintro e w2 (⟨k', hk', _, rfl, h2⟩ | ⟨hk', _⟩)
    · cases hk'
      have b1 : num ((all.drop k).take 2) < 65536 := num_take_lt (all.drop k) 2
      have b2 : num ((all.drop (k + 2)).take 2) < 65536 := num_take_lt (all.drop (k + 2)) 2
      have H : num ((all.drop k).take 4) = num ((all.drop k).take 2) * 65536 + num ((all.drop (k + 2)).take 2) := num_two all k 2 (by omega)
      generalize num ((all.drop k).take 2) = n1 at b1 H ⊢
      have H1 := Lib.hid H
      clear H
      go_wp2_with fail
      refine (rshort_any u w2 F p all (some (k + 2)) h2 hsz).mono ?_
      rintro e w3 (⟨k', hk', _, rfl, h3⟩ | ⟨hk', _⟩)
      · cases hk'
        generalize num ((all.drop (k + 2)).take 2) = n2 at b2 H1 ⊢
        go_wp2
        go_ret
        refine .inl ⟨k, rfl, by omega, ?_, h3⟩
        rw [H1.out]
        simp [Array.getD, or_u32 n1 n2 b1 b2]
      · exact absurd (hk' _ rfl) (by omega)
    · exact absurd (hk' k rfl) (by omega)
  · go_wp2
    go_ret
    exact .inr ⟨fun k h => by have := hk k h; omega, rfl, h1⟩

set_option maxHeartbeats 400000 in
theorem rlong_any (u w : World) (F : HProp) (p : Nat) (all : List UInt8) (st : Option Nat) (hs : Sat u w (isR p all st * F)) (hsz : all.length ≤ 1000000000) :
    Calls Tryz.prog 68 #[.pointer (some ⟨p, 0, none⟩)] w (Got u F p all st 8 .u64) := by
  go_enter Tryz.func68, Tryz.ntmps68
  go_wp2_with fail
  refine (stands_in u w F p all st 8 hs hsz).mono ?_
  rintro e w1 (⟨k, rfl, _, hk, rfl, h1⟩ | ⟨hk, rfl, h1⟩)
  · go_wp2_with fail
    refine (rword_any u w1 F p all (some k) h1 hsz).mono ?_
    rintro e w2 (⟨k', hk', _, rfl, h2⟩ | ⟨hk', _⟩)
    · cases hk'
      have b1 : num ((all.drop k).take 4) < 4294967296 := num_take_lt (all.drop k) 4
      have b2 : num ((all.drop (k + 4)).take 4) < 4294967296 := num_take_lt (all.drop (k + 4)) 4
      have H : num ((all.drop k).take 8) = num ((all.drop k).take 4) * 4294967296 + num ((all.drop (k + 4)).take 4) := num_two all k 4 (by omega)
      generalize num ((all.drop k).take 4) = n1 at b1 H ⊢
      have H1 := Lib.hid H
      clear H
      go_wp2_with fail
      refine (rword_any u w2 F p all (some (k + 4)) h2 hsz).mono ?_
      rintro e w3 (⟨k', hk', _, rfl, h3⟩ | ⟨hk', _⟩)
      · cases hk'
        generalize num ((all.drop (k + 4)).take 4) = n2 at b2 H1 ⊢
        go_wp2
        go_ret
        refine .inl ⟨k, rfl, by omega, ?_, h3⟩
        rw [H1.out]
        simp [Array.getD, or_u64 n1 n2 b1 b2]
      · exact absurd (hk' _ rfl) (by omega)
    · exact absurd (hk' k rfl) (by omega)
  · go_wp2
    go_ret
    exact .inr ⟨fun k h => by have := hk k h; omega, rfl, h1⟩

end Go.Proofs.YtlfmkiclaijokaaGreatDoor

namespace Go.Proofs.YtlfmkiclaijokaaGreatDoor
open Go.RowKit

theorem addr_add_add (a : Addr) (k j : Nat) : (a.add k).add j = a.add (k + j) := by
  unfold Addr.add
  by_cases hk : k = 0 <;> by_cases hj : j = 0 <;> simp [hk, hj, Nat.add_assoc]

theorem BytesAt.none' {w : World} {a : Option Addr} {n c : Nat} {all : List UInt8} (_h : BytesAt w (.slice a n c) all) : BytesAt w (.slice a 0 0) [] := by
  cases a with
  | none => exact .inl ⟨rfl, rfl, rfl⟩
  | some a => exact .inr ⟨a, 0, rfl, Nat.le_refl _, by decide, fun j u hu => by simp at hu⟩

theorem BytesAt.part {w : World} {a : Option Addr} {len c : Nat} {all : List UInt8} (h : BytesAt w (.slice a len c) all) (k n m : Nat) (hk : k + n ≤ all.length) (hn : 0 < n) (hm : n ≤ m) (hmm : m ≤ maxLen) :
    BytesAt w (.slice (a.map fun x => x.add k) n m) ((all.drop k).take n) := by
  rcases h with ⟨hv, hl, hx⟩ | ⟨a', c', hv, h1, h2, h3⟩
  · have : all.length = 0 := hl
    omega
  · cases hv
    have hl : ((all.drop k).take n).length = n := by simp; omega
    unfold BytesAt
    rw [hl]
    refine .inr ⟨a'.add k, m, rfl, hm, hmm, fun j u hu => ?_⟩
    rw [addr_add_add]
    refine h3 (k + j) u ?_
    simp only [List.getElem?_map, List.getElem?_take, List.getElem?_drop] at hu ⊢
    split at hu
    · exact hu
    · simp at hu

/-- A row that has a byte: where it lies. -/
theorem BytesAt.open {w : World} {v : Value} {xs : List UInt8} (h : BytesAt w v xs) (hx : 0 < xs.length) :
    ∃ b o c, v = .slice (some ⟨b, o, none⟩) xs.length c ∧ xs.length ≤ c ∧ c ≤ maxLen ∧ ∀ (j : Nat) (y : UInt8), xs[j]? = some y → w.cell? ⟨b, o + j, none⟩ = some (.int .u8 y.toNat) := by
  rcases h with ⟨_, h, _⟩ | ⟨⟨b, o, sp⟩, c, rfl, h1, h2, h3⟩
  · omega
  have hc := h3 0 (B xs[0]) (by rw [List.getElem?_map, List.getElem?_eq_getElem hx]; rfl)
  have hsp : sp = none := by
    cases sp with
    | none => rfl
    | some _ => simp [Addr.add, World.cell?] at hc; split at hc <;> simp at hc
  subst hsp
  refine ⟨b, o, c, rfl, h1, h2, fun j y hy => ?_⟩
  rw [← addr_add_at]
  exact h3 j (B y) (by simp [hy])

theorem BytesAt.mk' {w : World} {b o n c : Nat} {xs : List UInt8} (hl : xs.length = n) (h1 : n ≤ c) (h2 : c ≤ maxLen)
    (h3 : ∀ (j : Nat) (y : UInt8), xs[j]? = some y → w.cell? ⟨b, o + j, none⟩ = some (.int .u8 y.toNat)) : BytesAt w (.slice (some ⟨b, o, none⟩) n c) xs := by
  subst hl
  refine .inr ⟨⟨b, o, none⟩, c, rfl, h1, h2, fun j u hu => ?_⟩
  rw [addr_add_at]
  simp only [List.getElem?_map, Option.map_eq_some_iff] at hu
  obtain ⟨y, hy, rfl⟩ := hu
  exact h3 j y hy

/-- What a reader answers that is asked for a row of n bytes. -/
def GotRaw (u : World) (F : HProp) (p : Nat) (all : List UInt8) (st : Option Nat) (n : Int) (e : Ending) (w' : World) : Prop :=
  (∃ (k : Nat) (a : Option Addr) (c : Nat), st = some k ∧ 0 ≤ n ∧ k + n ≤ all.length ∧ e = .returned (.slice a n.toNat c) ∧ Sat u w' (ownB (.slice a n.toNat c) ((all.drop k).take n.toNat) * (isR p all (some (k + n.toNat)) * F))) ∨
  ((∀ k : Nat, st = some k → n < 0 ∨ all.length < k + n) ∧ e = .returned (.slice none 0 0) ∧ Sat u w' (isR p all none * F))

set_option maxRecDepth 100000 in
set_option maxHeartbeats 400000 in
theorem rraw_any (u w : World) (F : HProp) (p : Nat) (all : List UInt8) (st : Option Nat) (n : Int) (hs : Sat u w (isR p all st * F)) (hsz : all.length ≤ 1000000000) :
    Calls Tryz.prog 70 #[.pointer (some ⟨p, 0, none⟩), .int .i64 n] w (GotRaw u F p all st n) := by
  go_enter Tryz.func70, Tryz.ntmps70
  go_wp2_with fail
  refine (stands_in u w F p all st n hs hsz).mono ?_
  rintro e w1 (⟨k, rfl, h0, hk, rfl, h1⟩ | ⟨hk, rfl, h1⟩)
  · obtain ⟨a, c, hc0, hc1, hb, hc, h2⟩ := isR_cells h1
    simp only [atOf] at hc1 h2
    have hf1 := h2.free 1
    obtain ⟨n, rfl⟩ := Int.eq_ofNat_of_zero_le h0
    go_wp2
    have h3 := h2.setCell 1 (.int .i64 ((k : Int) + n))
    generalize w1.setCell ⟨p, 1, none⟩ (.int .i64 ((k : Int) + n)) = w2 at h3 ⊢
    have d0 : w2.cell? ⟨p, 0, none⟩ = some (.slice a all.length c) := h3.cell 0
    have d1 : w2.cell? ⟨p, 1, none⟩ = some (.int .i64 ((k : Int) + n)) := h3.cell 1
    have hle : ((k : Int) + n) ≤ c := by omega
    have hle2 : (k : Int) ≤ (k : Int) + n := by omega
    have hle3 : (0 : Int) ≤ (k : Int) := by omega
    have hle4 : (0 : Int) ≤ (k : Int) + n := by omega
    have hw : IntKind.i64.wrap (k : Int) = k := IntWalk.i64_in _ (by omega)
    clear hc0 hc1 hf1 hb hs h1
    go_still_tail 19, (by kernel_rfl)
    change wpList _ _ _ _ _ w2.drew
    clear hw
    generalize hw3 : w2.drew = w3
    have h4 := h3.drew
    rw [hw3] at h4
    clear h3 d0 d1 hw3
    have hb := h4.s2.bytes
    obtain ⟨_, _, hcm⟩ := RowAt.cap hb
    have h5 : Sat u w3 (isR p all (some (k + n)) * F) := isR_iff.2 ⟨by intro k' e; cases e; omega, _, by simpa [atOf] using h4⟩
    go_wp2_with fail
    · have hn0 : n = 0 := by omega
      subst hn0
      refine (clone_any u w3 _ _ [] h5 hb.none' (by decide)).mono ?_
      rintro e w4 ⟨a', c', rfl, h6⟩
      go_wp2
      go_ret
      exact .inl ⟨k, a', c', rfl, h0, hk, rfl, h6⟩
    · have hl : ((all.drop k).take n).length = n := by simp; omega
      refine (clone_any u w3 _ _ _ h5 (hb.part k n n (by omega) (by omega) (Nat.le_refl _) (by omega)) (by omega)).mono ?_
      rw [hl]
      rintro e w4 ⟨a', c', rfl, h6⟩
      go_wp2
      go_ret
      exact .inl ⟨k, a', c', rfl, h0, hk, rfl, h6⟩
  · go_wp2
    go_ret
    exact .inr ⟨hk, rfl, h1⟩
end Go.Proofs.YtlfmkiclaijokaaGreatDoor

namespace Go.Proofs.YtlfmkiclaijokaaGreatDoor
open Go.RowKit
set_option linter.unusedVariables false

/-- A rest, as the program holds it. -/
abbrev w32 (r : BitVec 32) : Value := .int .u32 (r.toNat : Int)

theorem xor32 (a b : BitVec 32) : bits .xor .u32 (a.toNat : Int) (b.toNat : Int) = ((a ^^^ b).toNat : Int) := by
  rw [u32_xor_nat _ _ a.isLt b.isLt, BitVec.toNat_xor]
theorem and32 (a b : BitVec 32) : bits .and .u32 (a.toNat : Int) (b.toNat : Int) = ((a &&& b).toNat : Int) := by
  rw [u32_and_nat _ _ a.isLt b.isLt, BitVec.toNat_and]
theorem or32 (a b : BitVec 32) : bits .or .u32 (a.toNat : Int) (b.toNat : Int) = ((a ||| b).toNat : Int) := by
  rw [u32_or_nat _ _ a.isLt b.isLt, BitVec.toNat_or]
theorem wrap32 (n : Int) : IntKind.u32.wrap n = n % 4294967296 := rfl
theorem shl32 (r : BitVec 32) (k : Nat) : IntKind.u32.wrap ((r.toNat : Int) * 2 ^ k) = ((r <<< k).toNat : Int) := by
  rw [wrap32, BitVec.toNat_shiftLeft, Nat.shiftLeft_eq]
  rw [Int.natCast_emod, Int.natCast_mul, Int.natCast_pow]
  rfl

theorem mul2 (r : BitVec 32) : HMod.hMod (HMul.hMul (r.toNat : Int) (2 : Int)) (4294967296 : Int) = Int.ofNat (r <<< 1).toNat := by
  rw [BitVec.toNat_shiftLeft, Nat.shiftLeft_eq]
  show _ = ((r.toNat * 2 ^ 1 % 2 ^ 32 : Nat) : Int)
  omega
theorem div2 (r : BitVec 32) : HDiv.hDiv (r.toNat : Int) (2 : Int) = Int.ofNat (r >>> 1).toNat := by
  rw [BitVec.toNat_ushiftRight, Nat.shiftRight_eq_div_pow]
  show _ = ((r.toNat / 2 ^ 1 : Nat) : Int)
  omega

theorem bit31 (r : BitVec 32) : (r &&& 2147483648#32) = if r.getLsbD 31 then 2147483648#32 else 0#32 := by
  have e : (2147483648#32 : BitVec 32) = BitVec.twoPow 32 31 := by decide
  rw [e]
  exact BitVec.and_twoPow r 31
theorem bit0 (r : BitVec 32) : (r &&& 1#32) = if r.getLsbD 0 then 1#32 else 0#32 := by
  have e : (1#32 : BitVec 32) = BitVec.twoPow 32 0 := by decide
  rw [e]
  exact BitVec.and_twoPow r 0

theorem on_any (w : World) (r : BitVec 32) : Calls Tryz.prog 131 #[w32 r] w fun e w' => e = .returned (w32 (onB r)) ∧ w = w' := by
  have hand : bits .and .u32 (r.toNat : Int) 2147483648 = ((r &&& 2147483648#32).toNat : Int) := and32 r 2147483648#32
  rw [bit31] at hand
  cases h : r.getLsbD 31 with
  | true =>
    have ho : onB r = r <<< 1 ^^^ 79764919#32 := by unfold onB; rw [h]; rfl
    rw [h, if_pos rfl] at hand
    rw [ho]
    clear ho h
    have hand' : bits .and .u32 (r.toNat : Int) 2147483648 = 2147483648 := hand
    clear hand
    go_enter Tryz.func131, Tryz.ntmps131
    go_wp2
    go_ret
    refine ⟨?_, rfl⟩
    show Ending.returned (.int .u32 (bits .xor .u32 ((r.toNat : Int) * 2 % 4294967296) 79764919)) = _
    rw [mul2]
    exact congrArg (fun x => Ending.returned (.int .u32 x)) (xor32 _ 79764919#32)
  | false =>
    have ho : onB r = r <<< 1 := by unfold onB; rw [h]; simp
    rw [h] at hand
    rw [ho]
    clear ho h
    have hand' : bits .and .u32 (r.toNat : Int) 2147483648 = 0 := hand
    clear hand
    go_enter Tryz.func131, Tryz.ntmps131
    go_wp2
    go_ret
    refine ⟨?_, rfl⟩
    show Ending.returned (.int .u32 ((r.toNat : Int) * 2 % 4294967296)) = _
    rw [mul2]
    rfl

theorem head_any (r : BitVec 32) (c : UInt8) : bits .xor .u32 (r.toNat : Int) (HMod.hMod (HMul.hMul (HMod.hMod (c.toNat : Int) (4294967296 : Int)) (16777216 : Int)) (4294967296 : Int)) = ((r ^^^ headB c).toNat : Int) := by
  have hc := c.toNat_lt
  have e : HMod.hMod (HMul.hMul (HMod.hMod (c.toNat : Int) (4294967296 : Int)) (16777216 : Int)) (4294967296 : Int) = Int.ofNat (headB c).toNat := by
    unfold headB
    rw [BitVec.toNat_shiftLeft, Nat.shiftLeft_eq, BitVec.toNat_ofNat]
    show _ = ((c.toNat % 2 ^ 32 * 2 ^ 24 % 2 ^ 32 : Nat) : Int)
    omega
  rw [e]
  exact xor32 r (headB c)

def onN : Nat → BitVec 32 → BitVec 32
  | 0, r => r
  | t + 1, r => onB (onN t r)

theorem behindB_snoc (r : BitVec 32) (xs : List UInt8) (j : Nat) (y : UInt8) (h : xs[j]? = some y) : behindB r (xs.take (j + 1)) = onN 8 (behindB r (xs.take j) ^^^ headB y) := by
  obtain ⟨hj, rfl⟩ := List.getElem?_eq_some_iff.1 h
  rw [List.take_succ_eq_append_getElem hj, behindB_append]
  rfl

set_option maxHeartbeats 1000000 in
theorem behind_any (w : World) (r : BitVec 32) (v : Value) (xs : List UInt8) (hb : BytesAt w v xs) :
    Calls Tryz.prog 114 #[w32 r, v] w fun e w' => e = .returned (w32 (behindB r xs)) ∧ w = w' := by
  obtain ⟨a, c, rfl, h1, h2⟩ := RowAt.len hb
  have hl : xs.length ≤ 9223372036854775807 := Nat.le_trans h1 h2
  go_enter Tryz.func114, Tryz.ntmps114
  go_wp2_with fail
  go_loopw [0, 9] (fun x i wr => ∃ j : Nat, j ≤ xs.length ∧ i = .int .i64 j ∧ x = w32 (behindB r (xs.take j)) ∧ w = wr) (fun _ i _ => xs.length - (intOf i).toNat)
  case atStart => exact ⟨0, Nat.zero_le _, rfl, rfl, rfl⟩
  case round =>
    obtain ⟨j, hj, rfl, rfl, rfl⟩ := hrel
    by_cases hlt : j < xs.length
    · obtain ⟨b, o, c', hv, _, _, hc⟩ := hb.open (by omega)
      cases hv
      obtain ⟨y, hy⟩ : ∃ y, xs[j]? = some y := ⟨xs[j], by simp⟩
      have c0 := hc j y hy
      have HS := Lib.hid (behindB_snoc r xs j y hy)
      generalize behindB r (xs.take j) = R at HS ⊢
      clear hy hc
      go_wp2_with fail
      rw [head_any]
      go_loopw [0, 18] (fun x i wr => ∃ t : Nat, t ≤ 8 ∧ i = .int .i64 t ∧ x = w32 (onN t (R ^^^ headB y)) ∧ w = wr) (fun _ i _ => 8 - (intOf i).toNat)
      case atStart => exact ⟨0, Nat.zero_le _, rfl, rfl, rfl⟩
      case round =>
        obtain ⟨t, ht, rfl, rfl, rfl⟩ := hrel
        by_cases ht8 : t < 8
        · go_wp2_with fail
          refine (on_any w _).mono ?_
          rintro e w1 ⟨rfl, rfl⟩
          dsimp only
          go_wp2
          go_roundw
          case rel => exact ⟨t + 1, ht8, by go_num, rfl, trivial⟩
          case measure => simp [intOf]; omega
        · have h8 : t = 8 := by omega
          subst h8
          go_wp2
          go_roundw
          case rel => exact ⟨j + 1, hlt, by go_num, by rw [HS.out], trivial⟩
          case measure => simp [intOf]; omega
    · have he : xs.take j = xs := List.take_of_length_le (by omega)
      rw [he]
      go_wp2
      go_ret
      exact ⟨rfl, rfl⟩

theorem sum_any (w : World) (v : Value) (xs : List UInt8) (hb : BytesAt w v xs) :
    Calls Tryz.prog 72 #[v] w fun e w' => e = .returned (w32 (sumB xs)) ∧ w = w' := by
  go_enter Tryz.func72, Tryz.ntmps72
  go_wp2_with fail
  refine (behind_any w 4294967295#32 v xs hb).mono ?_
  rintro e w1 ⟨rfl, rfl⟩
  dsimp only
  go_wp2
  go_ret
  refine ⟨?_, rfl⟩
  have e0 : (~~~ 0#32 : BitVec 32) = 4294967295#32 := by decide
  have e1 : (4294967295#32 : BitVec 32) = BitVec.allOnes 32 := by decide
  unfold sumB
  rw [e0]
  generalize behindB 4294967295#32 xs = R
  have e2 : ~~~ R = 4294967295#32 ^^^ R := by rw [e1, BitVec.allOnes_xor]
  rw [e2]
  exact congrArg (fun x => Ending.returned (.int .u32 x)) (xor32 4294967295#32 R)
end Go.Proofs.YtlfmkiclaijokaaGreatDoor
