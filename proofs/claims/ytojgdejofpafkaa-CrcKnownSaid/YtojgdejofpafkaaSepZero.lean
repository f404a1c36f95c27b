/- append(row, make([]T, k)...): the noughts are handed over as their number. No program in sight. -/
import Derived.Test.YtojgdejofpafkaaSepRow
import Derived.Lib.AppendZerosOnto
namespace Go.Proofs.Ytojgdejofpafkaa
open Go.RowKit

section
variable {P : Program} {u w : World} {F : HProp} {e : TypeId} {size : Nat} {v : Value} {n : Nat} {xs : List Value}

/-- The cells of k noughts. -/
def noughts (z : Value) (k : Nat) : List Value := (Builtin.zeroCells z.cells k).toList

theorem noughts_length (z : Value) (k : Nat) : (noughts z k).length = k * z.cells.size := by
  unfold noughts
  rw [Array.length_toList, size_zeroCells]

theorem noughts_mem {z : Value} (hz : z.cells = #[z]) {k : Nat} {y : Value} (h : y ∈ noughts z k) : y = z := by
  unfold noughts Builtin.zeroCells at h
  rw [hz] at h
  simp only [Array.toList_map, List.mem_map] at h
  obtain ⟨i, _, rfl⟩ := h
  have : i % (#[z] : Array Value).size = 0 := by simp [Nat.mod_one]
  rw [this]
  rfl

theorem noughts_eq {z : Value} (hz : z.cells = #[z]) (k : Nat) : noughts z k = List.replicate k z := by
  refine List.eq_replicate_iff.2 ⟨?_, fun y hy => noughts_mem hz hy⟩
  rw [noughts_length, hz]
  simp

/-- append of k noughts, onto a row of our own. -/
theorem Sat.append_zeros (t tn ty : TypeId) (i : TypeInfo) (z : Value) (kq kn : IntKind) (ht : P.underlying t = some (.slice e)) (htn : P.underlying tn = some (.int kn)) (hi : P.info? e = some i) (hz : i.zero = some z)
    (hsize : i.size = size) (hzs : z.cells.size = size) (hs0 : 0 < size) (hz1 : ∀ y ∈ z.cells.toList, y.oneCell' = true)
    (h : Sat u w (ownRow e size v n xs * F)) (k : Nat) (hbytes : (n + k) * i.bytes ≤ 140737488355328) (hb : 0 < i.bytes) :
    ∃ v' w', (Builtin.append_ #[t, tn] ty #[v, .int kq k]).run P w = .ok v' w' ∧ Sat u w' (ownRow e size v' (n + k) (xs ++ noughts z k) * F) := by
  subst hsize
  have hnm : n + k ≤ 140737488355328 := Nat.le_trans (Nat.le_mul_of_pos_right _ hb) hbytes
  have h63 : n + k ≤ maxLen := by simp only [maxLen]; omega
  have hkb : k * i.bytes ≤ 140737488355328 := Nat.le_trans (Nat.mul_le_mul_right _ (by omega)) hbytes
  have hxl := h.row_len
  have hnl := noughts_length z k
  rw [hzs] at hnl
  have hlen : (xs ++ noughts z k).length = (n + k) * i.size := by rw [List.length_append, hxl, hnl, Nat.add_mul]
  have hw : IntKind.i64.wrap (k : Int) = k := by rw [IntKind.wrap_i64]; omega
  have hneg : ¬ ((k : Int) < 0) := by omega
  have hw0 : IntKind.i64.wrap 0 = 0 := rfl
  have h48i : ¬ (281474976710656 < (k : Int) * (i.bytes : Int)) := by
    rw [← Int.natCast_mul]
    omega
  rcases Sat.row_iff.1 h with ⟨rfl, rfl, rfl, h0⟩ | ⟨g, cap, cur, rfl, a1, a2, a3, a4, a5, h0⟩
  · by_cases hk : k = 0
    · subst hk
      have e0 : noughts z 0 = [] := List.eq_nil_of_length_eq_zero (by rw [hnl]; simp)
      refine ⟨.slice none 0 0, w, ?_, ?_⟩
      · simp [Builtin.append_, run_underlying ht, run_underlying htn, sizeOf, typeInfo, zeroValue, hi, hz, asInt, asIntOf, hw0]
      · rw [e0]
        exact h
    · have hr := Lib.run_append_nil_zeros (P := P) w t tn ty e i z kq kn ht htn hi hz k (by omega) hs0 (by omega) (by omega)
      have hge := grownCap_ge w k 0 e
      have hcm : grownCap w k 0 e ≤ maxLen := grownCap_le_maxLen w k 0 e (by omega)
      refine ⟨_, _, hr, ?_⟩
      simp only [Nat.zero_add, List.nil_append]
      refine Sat.row_mk (h0.drew.alloc _) hge hcm ?_ ?_
      · simp only [Array.size_append, size_zeroCells, hzs, ← Nat.add_mul]
        congr 1
        omega
      · simp only [Array.toList_append]
        rw [← hnl]
        exact List.take_left
  · by_cases hroom : n + k ≤ cap
    · by_cases hk : k = 0
      · subst hk
        have e0 : noughts z 0 = [] := List.eq_nil_of_length_eq_zero (by rw [hnl]; simp)
        refine ⟨.slice (some ⟨g, 0, none⟩) n cap, w, ?_, ?_⟩
        · simp only [Nat.add_zero] at hroom
          simp [Builtin.append_, run_underlying ht, run_underlying htn, sizeOf, typeInfo, zeroValue, hi, hz, asInt, asIntOf, hroom, hw0, storeCells]
        · rw [e0]
          simpa using h
      · have hns : ¬ (k * i.size = 0) := Nat.mul_ne_zero hk (by omega)
        have hfit : n * i.size + (noughts z k).length ≤ cur.size := by rw [hnl, a3, ← Nat.add_mul]; exact Nat.mul_le_mul_right _ hroom
        have hst := run_storeCells_at P g (n * i.size) e (noughts z k) 0 cur w h0.get (by simpa using hfit) (fun y hy => by
          unfold noughts Builtin.zeroCells at hy
          simp only [Array.toList_map, List.mem_map] at hy
          obtain ⟨j, _, rfl⟩ := hy
          refine hz1 _ ?_
          have : j % z.cells.size < z.cells.size := Nat.mod_lt _ (by omega)
          rw [getElem!_pos z.cells (j % z.cells.size) this]
          exact Array.getElem_mem_toList this)
        simp only [Nat.add_zero] at hst
        refine ⟨.slice (some ⟨g, 0, none⟩) (n + k) cap, w.setRow g (cur.toList.take (n * i.size) ++ noughts z k ++ cur.toList.drop (n * i.size + (noughts z k).length)).toArray, ?_, Sat.row_mk (h0.upd rfl rfl rfl (setRow_heap w g cur _ e _ h0.get) fun j _ hj => setRow_other w g j _ hj) hroom a2 ?_ ?_⟩
        · simp [Builtin.append_, run_underlying ht, run_underlying htn, sizeOf, typeInfo, zeroValue, hi, hz, asInt, asIntOf, hw, hneg, h48i, hroom, hns, Addr.add_lit]
          have hst2 : Sem.run P (storeCells { block := g, off := n * i.size } (Builtin.zeroCells z.cells k).toList) w = _ := hst
          rw [hst2]
          simp
        · simp only [List.size_toArray, List.length_append, List.length_take, List.length_drop, Array.length_toList]
          omega
        · rw [a4, ← hlen]
          exact List.take_left
    · have hk : 0 < k := by omega
      have hold : (Builtin.firstCells i.size n (.slice (some ⟨g, 0, none⟩) n cap)).run P w.drew = .ok xs.toArray w.drew := by
        refine run_firstCells_some (P := P) w.drew i.size n _ n cap xs a5 fun j y hy => ?_
        rcases h.row_at with ⟨hv, _⟩ | ⟨a', c', hv, _, _, hc⟩
        · cases hv
        · cases hv
          simpa using hc j y hy
      have hr := Lib.run_append_grow_zeros (P := P) w t tn ty e i z kq kn ht htn hi hz (some ⟨g, 0, none⟩) n cap xs hold k hk hs0 (by omega) (by omega) (by omega) (growslice_fits (by omega) hbytes)
      have hge := grownCap_ge w (n + k) cap e
      have hcm : grownCap w (n + k) cap e ≤ maxLen := grownCap_le_maxLen w (n + k) cap e h63
      refine ⟨_, _, hr, Sat.row_mk (Sat.alloc h0.right.drew _) hge hcm ?_ ?_⟩
      · simp only [Array.size_append, List.size_toArray, size_zeroCells, hzs, a5, ← Nat.add_mul]
        congr 1
        omega
      · simp only [Array.toList_append]
        rw [← hlen]
        exact List.take_left

theorem wpList_append_zeros {o : Oper} {a : Act} {ops : Array Oper} {rest : List Oper} {Q : Exit → Act → World → Prop} (hg : o.guard = none) (s y : Operand) (t tn : TypeId)
    (ho : o.op = .call { callee := .builtin .append, args := #[s, y], argTypes := #[t, tn] })
    (i : TypeInfo) (z : Value) (kq kn : IntKind) (ht : P.underlying t = some (.slice e)) (htn : P.underlying tn = some (.int kn)) (hi : P.info? e = some i) (hz : i.zero = some z)
    (hsize : i.size = size) (hzs : z.cells.size = size) (hs0 : 0 < size) (hz1 : ∀ y ∈ z.cells.toList, y.oneCell' = true) (hb : 0 < i.bytes) (k : Nat)
    (hs : a.eval s = v) (hy : a.eval y = .int kq k) (h : Sat u w (ownRow e size v n xs * F)) (hbytes : (n + k) * i.bytes ≤ 140737488355328)
    (kk : ∀ a' c' w', Sat u w' (ownRow e size (.slice a' (n + k) c') (n + k) (xs ++ noughts z k) * F) → wpList P ops Q rest (a.put o.dst (.slice a' (n + k) c')) w') : wpList P ops Q (o :: rest) a w := by
  obtain ⟨v', w', hr, h2⟩ := h.append_zeros (P := P) t tn o.type i z kq kn ht htn hi hz hsize hzs hs0 hz1 k hbytes hb
  obtain ⟨a', c', rfl, _⟩ := h2.row_at.len
  exact Lib.wpList_append_run w hg s y t tn ho v (.int kq k) hs hy _ _ hr (kk a' c' w' h2)
end
end Go.Proofs.Ytojgdejofpafkaa
