/- append of a text's bytes onto a row of our own. No program in sight. -/
import Derived.Test.YtlfmkiclaijokaaGreatDoorMk2
import Derived.Lib.AppendStr
namespace Go.Proofs.YtlfmkiclaijokaaGreatDoor
open Go.RowKit

theorem strCells_B (s : List UInt8) : Lib.strCells (str s) = s.map B := rfl

section
variable {P : Program} {u w : World} {F : HProp} {e : TypeId} {n : Nat} {v : Value} {xs : List UInt8}

/-- append(b, s...). -/
theorem Sat.append_str (t r ty : TypeId) (i : TypeInfo) (ht : P.underlying t = some (.slice e)) (hr : P.underlying r = some .string) (hi : P.info? e = some i) (hz : i.zero = some (.int .u8 0))
    (hsize : i.size = 1) (hby : i.bytes = 1) (h : Sat u w (ownRow e 1 v n (xs.map B) * F)) (hn : 0 < n) (s : List UInt8) (hl : n + s.length ≤ 100000000) :
    ∃ a' c' w', (Builtin.append_ #[t, r] ty #[v, .string (str s)]).run P w = .ok (.slice a' (n + s.length) c') w' ∧ Sat u w' (ownRow e 1 (.slice a' (n + s.length) c') (n + s.length) ((xs ++ s).map B) * F) := by
  have hsz : (str s).size = s.length := str_size s
  have hcl : (Lib.strCells (str s)) = s.map B := rfl
  have h0 := h
  rcases Sat.row_iff.1 h with ⟨rfl, h1, _, _⟩ | ⟨g, cap, cur, rfl, a1, a2, a3, a4, a5, h3⟩
  · omega
  rw [Nat.mul_one] at a3 a4 a5
  by_cases hroom : n + s.length ≤ cap
  · have hrun := Lib.run_append_room_string (P := P) w t r ty e i ht hr hi hsize g n cap cur h3.get (str s) (by rw [hsz]; exact hroom) (by rw [hsz, a3]; exact hroom)
    rw [hsz, hcl] at hrun
    refine ⟨_, _, _, hrun, Sat.row_mk (h3.upd rfl rfl rfl (setRow_heap w g cur _ e _ h3.get) fun k _ hk => setRow_other w g k _ hk) hroom a2 ?_ ?_⟩
    · simp only [List.size_toArray, List.length_append, List.length_take, List.length_drop, Array.length_toList, List.length_map]
      omega
    · rw [Nat.mul_one, a4, List.map_append]
      have : (xs.map B ++ s.map B).length = n + s.length := by rw [List.length_append, a5, List.length_map]
      rw [← this]
      exact List.take_left
  · have holds : ∀ (j : Nat) (y : Value), (xs.map B)[j]? = some y → w.cell? ((⟨g, 0, none⟩ : Addr).add j) = some y := by
      rcases h0.row_at with ⟨hv, _⟩ | ⟨a', c', hv, _, _, hc⟩
      · cases hv
      · cases hv; exact hc
    have hfit : Builtin.nextslicecap (n + (str s).size) cap * i.bytes ≤ 281474976710656 := growslice_fits (by rw [hsz]; omega) (by rw [hsz, hby]; omega)
    have hrun := Lib.run_append_grow_string (P := P) w t r ty e i (.int .u8 0) ht hr hi hz ⟨g, 0, none⟩ n cap (xs.map B) (by rw [a5, hsize, Nat.mul_one]) holds (str s) (by rw [hsz]; omega) (by rw [hsz]; omega) hfit
    rw [hsz, hcl] at hrun
    have hge := grownCap_ge w (n + s.length) cap e
    have hcm : grownCap w (n + s.length) cap e ≤ maxLen := grownCap_le_maxLen w (n + s.length) cap e (by simp only [maxLen]; omega)
    refine ⟨_, _, _, hrun, Sat.row_mk (Sat.alloc h3.right.drew _) hge hcm ?_ ?_⟩
    · have hzz : (Value.int .u8 0).cells.size = 1 := rfl
      have hlx : xs.length = n := by rw [← a5, List.length_map]
      simp only [Array.size_append, List.size_toArray, size_zeroCells, hzz, List.length_map, hlx]
      omega
    · have hlx : (xs.map B ++ s.map B).length = (n + s.length) * 1 := by rw [List.length_append, a5, List.length_map, Nat.mul_one]
      simp only [Array.toList_append]
      rw [List.map_append, ← hlx]
      exact List.take_left

variable {x : Value} {o : Oper} {a : Act} {ops : Array Oper} {rest : List Oper} {K : Act → World → Prop} {Q : Exit → Act → World → Prop}

theorem wpList_append_str (hg : o.guard = none) (sl y : Operand) (t r : TypeId) (ho : o.op = .call { callee := .builtin .append, args := #[sl, y], argTypes := #[t, r] })
    (i : TypeInfo) (ht : P.underlying t = some (.slice e)) (hr : P.underlying r = some .string) (hi : P.info? e = some i) (hz : i.zero = some (.int .u8 0)) (hsize : i.size = 1) (hby : i.bytes = 1)
    (s : List UInt8) (hs : a.eval sl = v) (hy : a.eval y = .string (str s)) (h : Sat u w (ownRow e 1 v n (xs.map B) * F)) (hn : 0 < n) (hl : n + s.length ≤ 100000000)
    (k : ∀ a' c' w', Sat u w' (ownRow e 1 (.slice a' (n + s.length) c') (n + s.length) ((xs ++ s).map B) * F) → wpList P ops Q rest (a.put o.dst (.slice a' (n + s.length) c')) w') : wpList P ops Q (o :: rest) a w :=
  wpList_plain hg fun _ hK => by
    obtain ⟨a', c', w', hrun, h2⟩ := h.append_str (P := P) t r o.type i ht hr hi hz hsize hby hn s hl
    unfold Oper.wp execOp
    simp only [ho, resolve, invoke, builtin, Sem.run_bind, Sem.run_pure, Result.andThen_ok, List.map_toArray, List.map_cons, List.map_nil, hs, hy, hrun]
    exact hK _ _ (k a' c' w' h2)
end
end Go.Proofs.YtlfmkiclaijokaaGreatDoor
