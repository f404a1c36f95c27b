/- append(row, make([]T, k)...): the noughts are handed over as their number. No program in sight. copy, append in place and clear, over a block of our own, elements of however many cells. No program in sight. -/
import Derived.Test.YtlfmkiclaijokaaGreatDoorMk1
import Derived.Lib.AppendZerosOnto
namespace Go.Proofs.YtlfmkiclaijokaaGreatDoor
open Go.RowKit

section
variable {P : Program} {u w : World} {F : HProp} {e : TypeId} {size : Nat} {v : Value} {n : Nat} {xs : List Value}

/-- The cells of k noughts. -/
def noughts (z : Value) (k : Nat) : List Value := (Builtin.zeroCells z.cells k).toList

theorem noughts_length (z : Value) (k : Nat) : (noughts z k).length = k * z.cells.size := by
  unfold noughts
  rw [Array.length_toList, size_zeroCells]

theorem noughts_mem {z : Value} (hz : z.cells = #[z]) {k : Nat} {y : Value} (h : y ∈ noughts z k) : y = z := by
  unfold noughts Builtin.zeroCells at h
  rw [hz] at h
  simp only [Array.toList_map, List.mem_map] at h
  obtain ⟨i, _, rfl⟩ := h
  have : i % (#[z] : Array Value).size = 0 := by simp [Nat.mod_one]
  rw [this]
  rfl

theorem noughts_eq {z : Value} (hz : z.cells = #[z]) (k : Nat) : noughts z k = List.replicate k z := by
  refine List.eq_replicate_iff.2 ⟨?_, fun y hy => noughts_mem hz hy⟩
  rw [noughts_length, hz]
  simp

/-- append of k noughts, onto a row of our own. -/
theorem Sat.append_zeros (t tn ty : TypeId) (i : TypeInfo) (z : Value) (kq kn : IntKind) (ht : P.underlying t = some (.slice e)) (htn : P.underlying tn = some (.int kn)) (hi : P.info? e = some i) (hz : i.zero = some z)
    (hsize : i.size = size) (hzs : z.cells.size = size) (hs0 : 0 < size) (hz1 : ∀ y ∈ z.cells.toList, y.oneCell' = true)
    (h : Sat u w (ownRow e size v n xs * F)) (k : Nat) (hbytes : (n + k) * i.bytes ≤ 140737488355328) (hb : 0 < i.bytes) :
    ∃ v' w', (Builtin.append_ #[t, tn] ty #[v, .int kq k]).run P w = .ok v' w' ∧ Sat u w' (ownRow e size v' (n + k) (xs ++ noughts z k) * F) := by
  subst hsize
  have hnm : n + k ≤ 140737488355328 := Nat.le_trans (Nat.le_mul_of_pos_right _ hb) hbytes
  have h63 : n + k ≤ maxLen := by simp only [maxLen]; omega
  have hkb : k * i.bytes ≤ 140737488355328 := Nat.le_trans (Nat.mul_le_mul_right _ (by omega)) hbytes
  have hxl := h.row_len
  have hnl := noughts_length z k
  rw [hzs] at hnl
  have hlen : (xs ++ noughts z k).length = (n + k) * i.size := by rw [List.length_append, hxl, hnl, Nat.add_mul]
  have hw : IntKind.i64.wrap (k : Int) = k := by rw [IntKind.wrap_i64]; omega
  have hneg : ¬ ((k : Int) < 0) := by omega
  have hw0 : IntKind.i64.wrap 0 = 0 := rfl
  have h48i : ¬ (281474976710656 < (k : Int) * (i.bytes : Int)) := by
    rw [← Int.natCast_mul]
    omega
  rcases Sat.row_iff.1 h with ⟨rfl, rfl, rfl, h0⟩ | ⟨g, cap, cur, rfl, a1, a2, a3, a4, a5, h0⟩
  · by_cases hk : k = 0
    · subst hk
      have e0 : noughts z 0 = [] := List.eq_nil_of_length_eq_zero (by rw [hnl]; simp)
      refine ⟨.slice none 0 0, w, ?_, ?_⟩
      · simp [Builtin.append_, run_underlying ht, run_underlying htn, sizeOf, typeInfo, zeroValue, hi, hz, asInt, asIntOf, hw0]
      · rw [e0]
        exact h
    · have hr := Lib.run_append_nil_zeros (P := P) w t tn ty e i z kq kn ht htn hi hz k (by omega) hs0 (by omega) (by omega)
      have hge := grownCap_ge w k 0 e
      have hcm : grownCap w k 0 e ≤ maxLen := grownCap_le_maxLen w k 0 e (by omega)
      refine ⟨_, _, hr, ?_⟩
      simp only [Nat.zero_add, List.nil_append]
      refine Sat.row_mk (h0.drew.alloc _) hge hcm ?_ ?_
      · simp only [Array.size_append, size_zeroCells, hzs, ← Nat.add_mul]
        congr 1
        omega
      · simp only [Array.toList_append]
        rw [← hnl]
        exact List.take_left
  · by_cases hroom : n + k ≤ cap
    · by_cases hk : k = 0
      · subst hk
        have e0 : noughts z 0 = [] := List.eq_nil_of_length_eq_zero (by rw [hnl]; simp)
        refine ⟨.slice (some ⟨g, 0, none⟩) n cap, w, ?_, ?_⟩
        · simp only [Nat.add_zero] at hroom
          simp [Builtin.append_, run_underlying ht, run_underlying htn, sizeOf, typeInfo, zeroValue, hi, hz, asInt, asIntOf, hroom, hw0, storeCells]
        · rw [e0]
          simpa using h
      · have hns : ¬ (k * i.size = 0) := Nat.mul_ne_zero hk (by omega)
        have hfit : n * i.size + (noughts z k).length ≤ cur.size := by rw [hnl, a3, ← Nat.add_mul]; exact Nat.mul_le_mul_right _ hroom
        have hst := run_storeCells_at P g (n * i.size) e (noughts z k) 0 cur w h0.get (by simpa using hfit) (fun y hy => by
          unfold noughts Builtin.zeroCells at hy
          simp only [Array.toList_map, List.mem_map] at hy
          obtain ⟨j, _, rfl⟩ := hy
          refine hz1 _ ?_
          have : j % z.cells.size < z.cells.size := Nat.mod_lt _ (by omega)
          rw [getElem!_pos z.cells (j % z.cells.size) this]
          exact Array.getElem_mem_toList this)
        simp only [Nat.add_zero] at hst
        refine ⟨.slice (some ⟨g, 0, none⟩) (n + k) cap, w.setRow g (cur.toList.take (n * i.size) ++ noughts z k ++ cur.toList.drop (n * i.size + (noughts z k).length)).toArray, ?_, Sat.row_mk (h0.upd rfl rfl rfl (setRow_heap w g cur _ e _ h0.get) fun j _ hj => setRow_other w g j _ hj) hroom a2 ?_ ?_⟩
        · simp [Builtin.append_, run_underlying ht, run_underlying htn, sizeOf, typeInfo, zeroValue, hi, hz, asInt, asIntOf, hw, hneg, h48i, hroom, hns, Addr.add_lit]
          have hst2 : Sem.run P (storeCells { block := g, off := n * i.size } (Builtin.zeroCells z.cells k).toList) w = _ := hst
          rw [hst2]
          simp
        · simp only [List.size_toArray, List.length_append, List.length_take, List.length_drop, Array.length_toList]
          omega
        · rw [a4, ← hlen]
          exact List.take_left
    · have hk : 0 < k := by omega
      have hold : (Builtin.firstCells i.size n (.slice (some ⟨g, 0, none⟩) n cap)).run P w.drew = .ok xs.toArray w.drew := by
        refine run_firstCells_some (P := P) w.drew i.size n _ n cap xs a5 fun j y hy => ?_
        rcases h.row_at with ⟨hv, _⟩ | ⟨a', c', hv, _, _, hc⟩
        · cases hv
        · cases hv
          simpa using hc j y hy
      have hr := Lib.run_append_grow_zeros (P := P) w t tn ty e i z kq kn ht htn hi hz (some ⟨g, 0, none⟩) n cap xs hold k hk hs0 (by omega) (by omega) (by omega) (growslice_fits (by omega) hbytes)
      have hge := grownCap_ge w (n + k) cap e
      have hcm : grownCap w (n + k) cap e ≤ maxLen := grownCap_le_maxLen w (n + k) cap e h63
      refine ⟨_, _, hr, Sat.row_mk (Sat.alloc h0.right.drew _) hge hcm ?_ ?_⟩
      · simp only [Array.size_append, List.size_toArray, size_zeroCells, hzs, a5, ← Nat.add_mul]
        congr 1
        omega
      · simp only [Array.toList_append]
        rw [← hlen]
        exact List.take_left

theorem wpList_append_zeros {o : Oper} {a : Act} {ops : Array Oper} {rest : List Oper} {Q : Exit → Act → World → Prop} (hg : o.guard = none) (s y : Operand) (t tn : TypeId)
    (ho : o.op = .call { callee := .builtin .append, args := #[s, y], argTypes := #[t, tn] })
    (i : TypeInfo) (z : Value) (kq kn : IntKind) (ht : P.underlying t = some (.slice e)) (htn : P.underlying tn = some (.int kn)) (hi : P.info? e = some i) (hz : i.zero = some z)
    (hsize : i.size = size) (hzs : z.cells.size = size) (hs0 : 0 < size) (hz1 : ∀ y ∈ z.cells.toList, y.oneCell' = true) (hb : 0 < i.bytes) (k : Nat)
    (hs : a.eval s = v) (hy : a.eval y = .int kq k) (h : Sat u w (ownRow e size v n xs * F)) (hbytes : (n + k) * i.bytes ≤ 140737488355328)
    (kk : ∀ a' c' w', Sat u w' (ownRow e size (.slice a' (n + k) c') (n + k) (xs ++ noughts z k) * F) → wpList P ops Q rest (a.put o.dst (.slice a' (n + k) c')) w') : wpList P ops Q (o :: rest) a w := by
  obtain ⟨v', w', hr, h2⟩ := h.append_zeros (P := P) t tn o.type i z kq kn ht htn hi hz hsize hzs hs0 hz1 k hbytes hb
  obtain ⟨a', c', rfl, _⟩ := h2.row_at.len
  exact Lib.wpList_append_run w hg s y t tn ho v (.int kq k) hs hy _ _ hr (kk a' c' w' h2)
end
end Go.Proofs.YtlfmkiclaijokaaGreatDoor

namespace Go.Proofs.YtlfmkiclaijokaaGreatDoor
open Go.RowKit

section
variable {P : Program} {u w : World} {F : HProp} {e : TypeId} {g : Nat} {cur : Array Value}

/-- The block behind a write of cs, from cell off on. -/
def laid (cur : Array Value) (off : Nat) (cs : List Value) : Array Value := (cur.toList.take off ++ cs ++ cur.toList.drop (off + cs.length)).toArray

theorem laid_size (cur : Array Value) (off : Nat) (cs : List Value) (h : off + cs.length ≤ cur.size) : (laid cur off cs).size = cur.size := by
  unfold laid
  simp only [List.size_toArray, List.length_append, List.length_take, List.length_drop, Array.length_toList]
  omega

theorem Sat.laid (h : Sat u w (own g (.cells cur e (0, 0)) * F)) (off : Nat) (cs : List Value) : Sat u (w.setRow g (laid cur off cs)) (own g (.cells (laid cur off cs) e (0, 0)) * F) :=
  h.upd rfl rfl rfl (setRow_heap w g cur _ e _ h.get) fun _ _ hk => setRow_other w g _ _ hk

variable {o : Oper} {a : Act} {K : Act → World → Prop} {Q : Exit → Act → World → Prop}

theorem Sat.ne {a b : Nat} {o o' : Obj} (h : Sat u w (own a o * (own b o' * F))) : a ≠ b := by
  obtain ⟨_, _, _, r, ⟨r1, r2, rfl, ⟨r3, r4, rfl, p4, hok2, rfl⟩, hok, rfl⟩, hw⟩ := h
  intro e
  subst e
  have := hok a
  simp [joAt, okAt] at this

theorem laid_take (cur : Array Value) (off : Nat) (cs : List Value) (n : Nat) (h : off + cs.length ≤ cur.size) (hn : n ≤ off) : (laid cur off cs).toList.take n = cur.toList.take n := by
  unfold Go.Proofs.YtlfmkiclaijokaaGreatDoor.laid
  simp only [List.append_assoc]
  rw [List.take_append_of_le_length (by rw [List.length_take, Array.length_toList]; omega), List.take_take]
  congr 1
  omega

theorem laid_take2 (cur : Array Value) (off : Nat) (cs : List Value) (h : off + cs.length ≤ cur.size) : (laid cur off cs).toList.take (off + cs.length) = cur.toList.take off ++ cs := by
  unfold Go.Proofs.YtlfmkiclaijokaaGreatDoor.laid
  simp only []
  rw [List.take_left']
  rw [List.length_append, List.length_take, Array.length_toList]
  omega

theorem laid_take3 (cur : Array Value) (off : Nat) (cs : List Value) (m : Nat) (h : off + cs.length ≤ m) (hm : m ≤ cur.size) : (laid cur off cs).toList.take m = cur.toList.take off ++ cs ++ (cur.toList.take m).drop (off + cs.length) := by
  unfold Go.Proofs.YtlfmkiclaijokaaGreatDoor.laid
  have hl : (cur.toList.take off ++ cs).length = off + cs.length := by rw [List.length_append, List.length_take, Array.length_toList]; omega
  rw [List.take_append, List.take_of_length_le (by omega), hl, List.drop_take]

/-- copy. -/
theorem run_copy_laid (dT sT ty : TypeId) (i : TypeInfo) (ht : P.underlying dT = some (.slice e)) (hi : P.info? e = some i) (off dLen dCap : Nat) (sa : Addr) (sLen sCap n : Nat) (hn : Nat.min sLen dLen = n)
    (hg : w.heap[g]? = some (.cells cur e (0, 0))) (cs : List Value) (hl : cs.length = n * i.size) (hsrc : ∀ (j : Nat) (v : Value), cs[j]? = some v → w.cell? (sa.add j) = some v) (hfit : off + cs.length ≤ cur.size) (h1 : ∀ v ∈ cs, v.oneCell' = true) :
    (Builtin.copy_ #[dT, sT] ty #[.slice (some ⟨g, off, none⟩) dLen dCap, .slice (some sa) sLen sCap]).run P w = .ok (goInt n) (w.setRow g (laid cur off cs)) := by
  have hf := run_firstCells_some (P := P) w i.size n sa sLen sCap cs hl hsrc
  have hst := run_storeCells_at P g off e cs 0 cur w hg (by simpa using hfit) h1
  simp only [Nat.add_zero] at hst
  have hn' : min sLen dLen = n := hn
  unfold laid
  simp [Builtin.copy_, run_underlying ht, sizeOf, typeInfo, hi, Builtin.lenOf, hn', hf, hst]

theorem wp_copy_laid (d s : Operand) (dT sT : TypeId) (ho : o.op = .call { callee := .builtin .copy, args := #[d, s], argTypes := #[dT, sT] })
    (i : TypeInfo) (ht : P.underlying dT = some (.slice e)) (hi : P.info? e = some i) (off dLen dCap : Nat) (sa : Addr) (sLen sCap n : Nat) (hn : Nat.min sLen dLen = n)
    (hd : a.eval d = .slice (some ⟨g, off, none⟩) dLen dCap) (hs : a.eval s = .slice (some sa) sLen sCap)
    (h : Sat u w (own g (.cells cur e (0, 0)) * F)) (cs : List Value) (hl : cs.length = n * i.size) (hsrc : ∀ (j : Nat) (v : Value), cs[j]? = some v → w.cell? (sa.add j) = some v) (hfit : off + cs.length ≤ cur.size) (h1 : ∀ v ∈ cs, v.oneCell' = true)
    (k : ∀ w', Sat u w' (own g (.cells (laid cur off cs) e (0, 0)) * F) → K (a.put o.dst (goInt n)) w') : o.wp P a w K Q := by
  have hr := run_copy_laid (P := P) (w := w) (g := g) (cur := cur) dT sT o.type i ht hi off dLen dCap sa sLen sCap n hn h.get cs hl hsrc hfit h1
  unfold Oper.wp execOp
  simp only [ho, resolve, invoke, builtin, Sem.run_bind, Sem.run_pure, Result.andThen_ok, List.map_toArray, List.map_cons, List.map_nil, hd, hs, hr]
  exact k _ (h.laid off cs)

theorem wpList_copy_laid {ops : Array Oper} {rest : List Oper} (hgd : o.guard = none) (d s : Operand) (dT sT : TypeId) (ho : o.op = .call { callee := .builtin .copy, args := #[d, s], argTypes := #[dT, sT] })
    (i : TypeInfo) (ht : P.underlying dT = some (.slice e)) (hi : P.info? e = some i) (off dLen dCap : Nat) (sa : Addr) (sLen sCap n : Nat) (hn : Nat.min sLen dLen = n)
    (hd : a.eval d = .slice (some ⟨g, off, none⟩) dLen dCap) (hs : a.eval s = .slice (some sa) sLen sCap)
    (h : Sat u w (own g (.cells cur e (0, 0)) * F)) (cs : List Value) (hl : cs.length = n * i.size) (hsrc : ∀ (j : Nat) (v : Value), cs[j]? = some v → w.cell? (sa.add j) = some v) (hfit : off + cs.length ≤ cur.size) (h1 : ∀ v ∈ cs, v.oneCell' = true)
    (k : ∀ w', Sat u w' (own g (.cells (laid cur off cs) e (0, 0)) * F) → wpList P ops Q rest (a.put o.dst (goInt n)) w') : wpList P ops Q (o :: rest) a w :=
  wpList_plain hgd fun _ hK => wp_copy_laid d s dT sT ho i ht hi off dLen dCap sa sLen sCap n hn hd hs h cs hl hsrc hfit h1 fun w' h' => hK _ _ (k w' h')

/-- append where there is room. -/
theorem wp_append_laid (s y : Operand) (t : TypeId) (ho : o.op = .call { callee := .builtin .append, args := #[s, y], argTypes := #[t, t] })
    (i : TypeInfo) (ht : P.underlying t = some (.slice e)) (hi : P.info? e = some i) (n cap : Nat) (sa : Addr) (m c : Nat)
    (hs : a.eval s = .slice (some ⟨g, 0, none⟩) n cap) (hy : a.eval y = .slice (some sa) m c)
    (h : Sat u w (own g (.cells cur e (0, 0)) * F)) (news : List Value) (hl : news.length = m * i.size) (hsrc : ∀ (j : Nat) (v : Value), news[j]? = some v → w.cell? (sa.add j) = some v) (h1 : ∀ v ∈ news, v.oneCell' = true)
    (hroom : n + m ≤ cap) (hfit : n * i.size + news.length ≤ cur.size)
    (k : ∀ w', Sat u w' (own g (.cells (laid cur (n * i.size) news) e (0, 0)) * F) → K (a.put o.dst (.slice (some ⟨g, 0, none⟩) (n + m) cap)) w') : o.wp P a w K Q := by
  have hr := run_append_room (P := P) w t o.type e i ht hi g n cap cur h.get sa m c news hl hsrc h1 hroom hfit
  unfold Oper.wp execOp
  simp only [ho, resolve, invoke, builtin, Sem.run_bind, Sem.run_pure, Result.andThen_ok, List.map_toArray, List.map_cons, List.map_nil, hs, hy, hr]
  exact k _ (h.laid _ news)

/-- clear. -/
theorem run_clear_laid (t ty : TypeId) (i : TypeInfo) (z : Value) (ht : P.underlying t = some (.slice e)) (hi : P.info? e = some i) (hz : i.zero = some z) (off n c : Nat) (hn : 0 < n)
    (hg : w.heap[g]? = some (.cells cur e (0, 0))) (h1 : ∀ v ∈ z.cells.toList, v.oneCell' = true) (hzs : 0 < z.cells.size) (hfit : off + n * z.cells.size ≤ cur.size) :
    (Builtin.clear_ #[t] ty #[.slice (some ⟨g, off, none⟩) n c]).run P w = .ok (.tuple #[]) (w.setRow g (laid cur off (noughts z n))) := by
  have hnl := noughts_length z n
  have hst := run_storeCells_at P g off e (noughts z n) 0 cur w hg (by rw [hnl]; simpa using hfit) (fun y hy => by
    unfold noughts Builtin.zeroCells at hy
    simp only [Array.toList_map, List.mem_map] at hy
    obtain ⟨j, _, rfl⟩ := hy
    refine h1 _ ?_
    have : j % z.cells.size < z.cells.size := Nat.mod_lt _ hzs
    rw [getElem!_pos z.cells (j % z.cells.size) this]
    exact Array.getElem_mem_toList this)
  simp only [Nat.add_zero] at hst
  have hst2 : Sem.run P (storeCells { block := g, off := off } (Builtin.zeroCells z.cells n).toList) w = _ := hst
  obtain ⟨m, rfl⟩ : ∃ m, n = m + 1 := ⟨n - 1, by omega⟩
  unfold laid
  simp [Builtin.clear_, run_underlying ht, zeroValue, typeInfo, hi, hz, hst2]

/-- append of k noughts where there is no room: a new block; the old one stays. -/
theorem Sat.append_zeros_grow (t tn ty : TypeId) (i : TypeInfo) (z : Value) {size : Nat} (kq kn : IntKind) (ht : P.underlying t = some (.slice e)) (htn : P.underlying tn = some (.int kn)) (hi : P.info? e = some i) (hz : i.zero = some z)
    (hsize : i.size = size) (hzs : z.cells.size = size) (hs0 : 0 < size) (h : Sat u w (own g (.cells cur e (0, 0)) * F)) (n cap : Nat) (a1 : n ≤ cap) (a3 : cur.size = cap * size) (k : Nat) (hroom : ¬ n + k ≤ cap)
    (hbytes : (n + k) * i.bytes ≤ 140737488355328) (hb : 0 < i.bytes) :
    ∃ g2 c2 cur2 w', (Builtin.append_ #[t, tn] ty #[.slice (some ⟨g, 0, none⟩) n cap, .int kq k]).run P w = .ok (.slice (some ⟨g2, 0, none⟩) (n + k) c2) w' ∧ n + k ≤ c2 ∧ c2 ≤ maxLen ∧ cur2.size = c2 * size ∧
      cur2.toList.take ((n + k) * size) = cur.toList.take (n * size) ++ noughts z k ∧ Sat u w' (own g2 (.cells cur2 e (0, 0)) * (own g (.cells cur e (0, 0)) * F)) := by
  subst hsize
  have hnm : n + k ≤ 140737488355328 := Nat.le_trans (Nat.le_mul_of_pos_right _ hb) hbytes
  have h63 : n + k ≤ maxLen := by simp only [maxLen]; omega
  have hkb : k * i.bytes ≤ 140737488355328 := Nat.le_trans (Nat.mul_le_mul_right _ (by omega)) hbytes
  have hnl := noughts_length z k
  rw [hzs] at hnl
  have hk : 0 < k := by omega
  have hxl : (cur.toList.take (n * i.size)).length = n * i.size := by
    rw [List.length_take, Array.length_toList, a3]
    exact Nat.min_eq_left (Nat.mul_le_mul_right _ a1)
  have hold : (Builtin.firstCells i.size n (.slice (some ⟨g, 0, none⟩) n cap)).run P w.drew = .ok (cur.toList.take (n * i.size)).toArray w.drew := by
    refine run_firstCells_some (P := P) w.drew i.size n _ n cap _ hxl fun j y hy => ?_
    rw [addr_add, h.drew.cell]
    rw [List.getElem?_take] at hy
    split at hy
    · simpa using hy
    · cases hy
  have hr := Lib.run_append_grow_zeros (P := P) w t tn ty e i z kq kn ht htn hi hz (some ⟨g, 0, none⟩) n cap (cur.toList.take (n * i.size)) hold k hk hs0 (by omega) (by omega) (by omega) (growslice_fits (by omega) hbytes)
  have hge := grownCap_ge w (n + k) cap e
  have hcm : grownCap w (n + k) cap e ≤ maxLen := grownCap_le_maxLen w (n + k) cap e h63
  refine ⟨_, _, _, _, hr, hge, hcm, ?_, ?_, Sat.alloc h.drew _⟩
  · simp only [Array.size_append, List.size_toArray, size_zeroCells, hzs, hxl, ← Nat.add_mul]
    congr 1
    omega
  · simp only [Array.toList_append]
    have hlen : (cur.toList.take (n * i.size) ++ noughts z k).length = (n + k) * i.size := by rw [List.length_append, hxl, hnl, Nat.add_mul]
    rw [← hlen]
    exact List.take_left
end
end Go.Proofs.YtlfmkiclaijokaaGreatDoor
