/- Slices of pieces; few. -/
import Derived.Test.YtojgdejofpafkaaFields9
namespace Go.Proofs.Ytojgdejofpafkaa
open Go.RowKit

abbrev Pc : Type := Int × Int × ByteArray

def okPc (x : Pc) : Prop := 0 ≤ x.1 ∧ x.1 < 256 ∧ -9223372036854775808 ≤ x.2.1 ∧ x.2.1 ≤ 9223372036854775807 ∧ x.2.2.size ≤ 9223372036854775807

/-- The slice at (b, o) has the pieces ps. -/
structure PcsAt (w : World) (a : Option Addr) (n c : Nat) (ps : List Pc) : Prop where
  len : n = ps.length
  le : n ≤ c
  most : c ≤ 9223372036854775807
  ok : ∀ x ∈ ps, okPc x
  at_ : n = 0 ∨ ∃ b o, a = some ⟨b, o, none⟩ ∧ ∀ (j : Nat) (x : Pc), ps[j]? = some x →
    w.cell? ⟨b, o + j * 3, none⟩ = some (.int .u8 x.1) ∧ w.cell? ⟨b, o + j * 3 + 1, none⟩ = some (.int .i64 x.2.1) ∧ w.cell? ⟨b, o + j * 3 + 2, none⟩ = some (.string x.2.2)

theorem PcsAt.get {w : World} {a : Option Addr} {n c : Nat} {ps : List Pc} (h : PcsAt w a n c ps) {j : Nat} (hj : j < n) :
    ∃ b o k m s, a = some ⟨b, o, none⟩ ∧ ps[j]? = some (k, m, s) ∧ okPc (k, m, s) ∧ w.cell? ⟨b, o + j * 3, none⟩ = some (.int .u8 k) ∧ w.cell? ⟨b, o + j * 3 + 1, none⟩ = some (.int .i64 m) ∧ w.cell? ⟨b, o + j * 3 + 2, none⟩ = some (.string s) := by
  have hl := h.len
  rcases h.at_ with h0 | ⟨b, o, rfl, hc⟩
  · omega
  have hx : ps[j]? = some ps[j] := by simp
  obtain ⟨c0, c1, c2⟩ := hc j _ hx
  exact ⟨b, o, ps[j].1, ps[j].2.1, ps[j].2.2, rfl, hx, h.ok _ (List.getElem_mem _), c0, c1, c2⟩

theorem PcsAt.of {w : World} {a : Addr} {n c : Nat} (hle : n ≤ c) (hm : c ≤ 9223372036854775807)
    (h : ∀ i, i < n → ∃ x : Pc, okPc x ∧ w.cell? (a.add (i * 3)) = some (.int .u8 x.1) ∧ w.cell? (a.add (i * 3 + 1)) = some (.int .i64 x.2.1) ∧ w.cell? (a.add (i * 3 + 2)) = some (.string x.2.2)) :
    ∃ ps, PcsAt w (some a) n c ps := by
  have h' : ∀ i, ∃ x : Pc, i < n → okPc x ∧ w.cell? (a.add (i * 3)) = some (.int .u8 x.1) ∧ w.cell? (a.add (i * 3 + 1)) = some (.int .i64 x.2.1) ∧ w.cell? (a.add (i * 3 + 2)) = some (.string x.2.2) := by
    intro i
    by_cases hi : i < n
    · obtain ⟨x, hx⟩ := h i hi
      exact ⟨x, fun _ => hx⟩
    · exact ⟨(0, 0, ByteArray.empty), fun h => absurd h hi⟩
  obtain ⟨f, hf⟩ := Classical.axiomOfChoice h'
  refine ⟨(List.range n).map f, by simp, hle, hm, ?_, ?_⟩
  · intro x hx
    obtain ⟨i, hi, rfl⟩ := List.mem_map.1 hx
    exact (hf i (List.mem_range.1 hi)).1
  · rcases Nat.eq_zero_or_pos n with h0 | h0
    · exact .inl h0
    · obtain ⟨b, o, sp⟩ := a
      have hc := (hf 0 h0).2.1
      have hsp : sp = none := by
        cases sp with
        | none => rfl
        | some _ => simp [Addr.add, World.cell?] at hc; split at hc <;> simp at hc
      subst hsp
      refine .inr ⟨b, o, rfl, fun j x hx => ?_⟩
      have hj : j < n := by
        rcases Nat.lt_or_ge j n with h | h
        · exact h
        · rw [List.getElem?_eq_none (by simpa using h)] at hx; cases hx
      obtain rfl : f j = x := by
        rw [List.getElem?_map, List.getElem?_range hj] at hx
        exact Option.some.inj hx
      obtain ⟨_, c0, c1, c2⟩ := hf j hj
      rw [addr_add_at] at c0 c1 c2
      exact ⟨c0, by rw [Nat.add_assoc]; exact c1, by rw [Nat.add_assoc]; exact c2⟩

theorem PcsAt.below {w w' : World} {a : Option Addr} {n c : Nat} {ps : List Pc} (h : PcsAt w a n c ps) (hb : Below w.heap.size w w') : PcsAt w' a n c ps := by
  have key : ∀ {q : Addr} {v : Value}, w.cell? q = some v → w'.cell? q = some v := fun hq => (hb.cell (World.block_lt_of_cell? w _ hq)).trans hq
  refine ⟨h.len, h.le, h.most, h.ok, h.at_.imp id ?_⟩
  rintro ⟨b, o, rfl, hc⟩
  exact ⟨b, o, rfl, fun j x hx => ⟨key (hc j x hx).1, key (hc j x hx).2.1, key (hc j x hx).2.2⟩⟩

theorem BytesAt.below {w w' : World} {v : Value} {xs : List UInt8} (h : BytesAt w v xs) (hb : Below w.heap.size w w') : BytesAt w' v xs := by
  rcases h with h | ⟨a, c, h1, h2, h3, h4⟩
  · exact .inl h
  · exact .inr ⟨a, c, h1, h2, h3, fun j y hy => (hb.cell (World.block_lt_of_cell? w _ (h4 j y hy))).trans (h4 j y hy)⟩

/-- How many bytes few counts of the first pieces. -/
def cnt (ps : List Pc) : Nat := (ps.map fun x => min x.2.2.size 2001).sum

def fewB (ps : List Pc) : Bool := decide (ps.length ≤ 60) && decide (cnt (ps.take 60) ≤ 2000)

theorem cnt_snoc (ps : List Pc) (j : Nat) (x : Pc) (h : ps[j]? = some x) : cnt (ps.take (j + 1)) = cnt (ps.take j) + min x.2.2.size 2001 := by
  obtain ⟨hj, rfl⟩ := List.getElem?_eq_some_iff.1 h
  unfold cnt
  rw [List.take_succ_eq_append_getElem hj, List.map_append, List.sum_append]
  simp

theorem cnt_le (ps : List Pc) : cnt ps ≤ ps.length * 2001 := by
  induction ps with
  | nil => simp [cnt]
  | cons x ps ih => simp only [cnt, List.map_cons, List.sum_cons, List.length_cons] at *; omega

set_option maxHeartbeats 1000000 in
theorem few_any (w : World) (a : Option Addr) (n c : Nat) (ps : List Pc) (h : PcsAt w a n c ps) :
    Calls Try.prog 20 #[.slice a n c] w fun e w' => e = .returned (.bool (fewB ps)) ∧ w = w' := by
  have hn : n ≤ 9223372036854775807 := Nat.le_trans h.le h.most
  have hB : fewB ps = (decide (n ≤ 60) && decide (cnt (ps.take 60) ≤ 2000)) := by rw [h.len]; rfl
  rw [hB]
  clear hB
  generalize hC : cnt (ps.take 60) = C
  have HC := Lib.hid hC
  clear hC
  go_enter Try.func20, Try.ntmps20
  go_wp2
  go_loop [3, 4] (fun t i => ∃ j : Nat, j ≤ n ∧ j ≤ 60 ∧ i = .int .i64 j ∧ t = .int .i64 (cnt (ps.take j))) (fun _ i => n - (intOf i).toNat)
  case atStart => exact ⟨0, Nat.zero_le _, by omega, rfl, rfl⟩
  case round =>
    obtain ⟨j, hj, hj6, rfl, rfl⟩ := hrel
    have hcl : cnt (ps.take j) ≤ 120060 := by
      have := cnt_le (ps.take j)
      simp only [List.length_take] at this
      omega
    by_cases hlt : j < n ∧ j < 60
    · obtain ⟨h1, h2⟩ := hlt
      obtain ⟨b, o, k, m, s, rfl, hx, hok, c0, c1, c2⟩ := h.get h1
      have hs := cnt_snoc ps j _ hx
      have hsz : s.size ≤ 9223372036854775807 := hok.2.2.2.2
      have h1' : decide ((j : Int) < n) = true := by simpa using h1
      have HS := Lib.hid hs
      clear hs hok
      generalize cnt (ps.take j) = D at hcl HS ⊢
      go_wp2
      refine ⟨⟨j + 1, by omega, by omega, by go_num, ?_⟩, by simp [intOf]; omega⟩
      rw [HS.out]
      congr 1
      simp only
      split <;> omega
    · have e60 : ps.take j = ps.take 60 := by
        have hl := h.len
        by_cases h1 : j < n
        · have : j = 60 := by omega
          rw [this]
        · rw [List.take_of_length_le (by omega), List.take_of_length_le (by omega)]
      rw [e60, HC.out] at hcl ⊢
      clear e60
      by_cases h1 : j < n
      · have h2 : j = 60 := by omega
        subst h2
        have d1 : decide ((60 : Int) < n) = true := by simp; omega
        have d2 : decide ((n : Int) ≤ 60) = false := by simp; omega
        have d3 : decide (n ≤ 60) = false := by simp; omega
        go_wp2
        go_ret
        exact ⟨rfl, rfl⟩
      · have d1 : decide ((j : Int) < n) = false := by simp; omega
        have d2 : decide ((n : Int) ≤ 60) = true := by simp; omega
        have d3 : decide (n ≤ 60) = true := by simp; omega
        go_wp2
        go_ret
        exact ⟨by rw [show decide (C ≤ 2000) = decide ((C : Int) ≤ 2000) from decide_eq_decide.2 (by omega)]; rfl, rfl⟩
end Go.Proofs.Ytojgdejofpafkaa
