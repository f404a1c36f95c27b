/- Rows that are owned, rows that are read; append over them. No program in sight. -/
import Derived.Test.YtojgdejofpafkaaSep
import Derived.Laws.OwnMore
namespace Go.Proofs.Ytojgdejofpafkaa
open Go.RowKit

/-- The slice v has m elements, which are the cells xs. -/
def RowAt (w : World) (v : Value) (m : Nat) (xs : List Value) : Prop :=
  (v = .slice none 0 0 ∧ m = 0 ∧ xs = []) ∨ ∃ a c, v = .slice (some a) m c ∧ m ≤ c ∧ c ≤ maxLen ∧ ∀ (j : Nat) (u : Value), xs[j]? = some u → w.cell? (a.add j) = some u

theorem RowAt.len {w : World} {v : Value} {m : Nat} {xs : List Value} (h : RowAt w v m xs) : ∃ a c, v = .slice a m c ∧ m ≤ c ∧ c ≤ maxLen := by
  rcases h with ⟨rfl, rfl, _⟩ | ⟨a, c, rfl, h1, h2, _⟩
  · exact ⟨none, 0, rfl, Nat.le_refl _, Nat.zero_le _⟩
  · exact ⟨some a, c, rfl, h1, h2⟩

theorem RowAt.cap {w : World} {a : Option Addr} {n c m : Nat} {xs : List Value} (h : RowAt w (.slice a n c) m xs) : n = m ∧ n ≤ c ∧ c ≤ maxLen := by
  rcases h with ⟨hv, rfl, _⟩ | ⟨a, c', hv, h1, h2, _⟩
  · cases hv; exact ⟨rfl, Nat.le_refl _, Nat.zero_le _⟩
  · cases hv; exact ⟨rfl, h1, h2⟩

/-- A slice of n elements (e: their type, size: the cells of each) over an array of its own, which holds xs ahead. -/
def ownRow (e : TypeId) (size : Nat) (v : Value) (n : Nat) (xs : List Value) : HProp := fun r =>
  (v = .slice none 0 0 ∧ n = 0 ∧ xs = [] ∧ r = fun _ => none) ∨
  ∃ g cap cur, v = .slice (some ⟨g, 0, none⟩) n cap ∧ n ≤ cap ∧ cap ≤ maxLen ∧ cur.size = cap * size ∧ cur.toList.take (n * size) = xs ∧ xs.length = n * size ∧ own g (.cells cur e (0, 0)) r

section
variable {u w : World} {F : HProp} {e : TypeId} {size : Nat} {v : Value} {n : Nat} {xs : List Value}

theorem Sat.row_iff : Sat u w (ownRow e size v n xs * F) ↔
    (v = .slice none 0 0 ∧ n = 0 ∧ xs = [] ∧ Sat u w F) ∨
    ∃ g cap cur, v = .slice (some ⟨g, 0, none⟩) n cap ∧ n ≤ cap ∧ cap ≤ maxLen ∧ cur.size = cap * size ∧ cur.toList.take (n * size) = xs ∧ xs.length = n * size ∧ Sat u w (own g (.cells cur e (0, 0)) * F) := by
  constructor
  · rintro ⟨h1, h2, h3, r, ⟨r1, r2, hr | ⟨g, cap, cur, hv, a1, a2, a3, a4, a5, ho⟩, p2, hok, rfl⟩, hw⟩
    · obtain ⟨rfl, rfl, rfl, rfl⟩ := hr
      exact .inl ⟨rfl, rfl, rfl, h1, h2, h3, r2, p2, fun b q o hb => hw b q o (by simpa [joAt] using hb)⟩
    · exact .inr ⟨g, cap, cur, hv, a1, a2, a3, a4, a5, h1, h2, h3, _, ⟨r1, r2, ho, p2, hok, rfl⟩, hw⟩
  · rintro (⟨rfl, rfl, rfl, h⟩ | ⟨g, cap, cur, hv, a1, a2, a3, a4, a5, h⟩)
    · exact h.mono fun r hr => ⟨fun _ => none, r, .inl ⟨rfl, rfl, rfl, rfl⟩, hr, fun _ => trivial, by simp [joAt]⟩
    · exact h.monoL fun r hr => .inr ⟨g, cap, cur, hv, a1, a2, a3, a4, a5, hr⟩

theorem Sat.row_nil (h : Sat u w F) : Sat u w (ownRow e size (.slice none 0 0) 0 [] * F) := Sat.row_iff.2 (.inl ⟨rfl, rfl, rfl, h⟩)

theorem Sat.row_mk {g cap : Nat} {cur : Array Value} (h : Sat u w (own g (.cells cur e (0, 0)) * F)) (a1 : n ≤ cap) (a2 : cap ≤ maxLen) (a3 : cur.size = cap * size)
    (a4 : cur.toList.take (n * size) = xs) : Sat u w (ownRow e size (.slice (some ⟨g, 0, none⟩) n cap) n xs * F) :=
  Sat.row_iff.2 (.inr ⟨g, cap, cur, rfl, a1, a2, a3, a4, by rw [← a4, List.length_take, Array.length_toList, a3]; exact Nat.min_eq_left (Nat.mul_le_mul_right _ a1), h⟩)

theorem Sat.row_len (h : Sat u w (ownRow e size v n xs * F)) : xs.length = n * size := by
  rcases Sat.row_iff.1 h with ⟨_, rfl, rfl, _⟩ | ⟨_, _, _, _, _, _, _, _, h, _⟩
  · simp
  · exact h

theorem addr_add (g j : Nat) : (⟨g, 0, none⟩ : Addr).add j = ⟨g, j, none⟩ := by unfold Addr.add; split <;> simp_all
theorem addr_add_at (g o j : Nat) : (⟨g, o, none⟩ : Addr).add j = ⟨g, o + j, none⟩ := by unfold Addr.add; split <;> simp_all

theorem Sat.row_at (h : Sat u w (ownRow e size v n xs * F)) : RowAt w v n xs := by
  rcases Sat.row_iff.1 h with ⟨rfl, rfl, rfl, _⟩ | ⟨g, cap, cur, rfl, a1, a2, a3, a4, _, h⟩
  · exact .inl ⟨rfl, rfl, rfl⟩
  · refine .inr ⟨⟨g, 0, none⟩, cap, rfl, a1, a2, fun j u hu => ?_⟩
    rw [addr_add, h.cell]
    rw [← a4, List.getElem?_take] at hu
    split at hu
    · simpa using hu
    · cases hu

theorem Reads.row : Reads (ownRow e size v n xs) (fun w => RowAt w v n xs) := fun u w h => by
  have h' : Sat u w (ownRow e size v n xs * fact True) := by
    rw [star_comm]; exact Sat.fact_iff.2 ⟨trivial, h⟩
  exact h'.row_at

/-- append, onto a row of our own. -/
theorem Sat.append {P : Program} (t ty : TypeId) (i : TypeInfo) (z : Value) {bytes : Nat} (ht : P.underlying t = some (.slice e)) (hi : P.info? e = some i) (hz : i.zero = some z)
    (hsize : i.size = size) (hby : i.bytes = bytes) (hzs : z.cells.size = size)
    (h : Sat u w (ownRow e size v n xs * F)) {x : Value} {m : Nat} {news : List Value} (hx : RowAt w x m news) (hl : news.length = m * size) (h1 : ∀ y ∈ news, y.oneCell' = true)
    (hbytes : (n + m) * bytes ≤ 140737488355328) (hb : 0 < bytes) :
    ∃ v' w', (Builtin.append_ #[t, t] ty #[v, x]).run P w = .ok v' w' ∧ Sat u w' (ownRow e size v' (n + m) (xs ++ news) * F) ∧ (v' = .slice none 0 0 ↔ v = .slice none 0 0 ∧ (m = 0)) := by
  subst hsize
  subst hby
  have hnm : n + m ≤ 140737488355328 := Nat.le_trans (Nat.le_mul_of_pos_right _ hb) hbytes
  have h63 : n + m ≤ maxLen := by simp only [maxLen]; omega
  have hxl := h.row_len
  have hlen : (xs ++ news).length = (n + m) * i.size := by rw [List.length_append, hxl, hl, Nat.add_mul]
  rcases hx with ⟨rfl, rfl, rfl⟩ | ⟨a, c, rfl, hmc, hcm', hnews⟩
  · have hown : w.ownsRow 0 e i.size v n xs := by
      rcases Sat.row_iff.1 h with ⟨rfl, rfl, rfl, _⟩ | ⟨g, cap, cur, rfl, a1, a2, a3, a4, a5, h⟩
      · exact World.ownsRow_nil _ _ _ _
      · exact ⟨a5, .inr ⟨g, cap, cur, rfl, Nat.zero_le _, h.get, a1, a2, a3, a4⟩⟩
    refine ⟨v, w, run_append_owned_none (P := P) (w := w) 0 t ty e i i.size ht hi v n xs hown, ?_, by simp⟩
    simpa using h
  rcases Sat.row_iff.1 h with ⟨rfl, rfl, rfl, h0⟩ | ⟨g, cap, cur, rfl, a1, a2, a3, a4, a5, h0⟩
  · by_cases hm : m = 0
    · subst hm
      have hn : news = [] := List.eq_nil_of_length_eq_zero (by simpa using hl)
      subst hn
      refine ⟨.slice none 0 0, w, ?_, by simpa using h, by simp⟩
      simp [Builtin.append_, run_underlying ht, sizeOf, typeInfo, hi, Builtin.lenOf, Builtin.firstCells, loadCells, loadCellsFrom]
    · have hr := run_append_nil (P := P) w t ty e i z ht hi hz a m c news hl hnews (by omega) (by omega) (by have hb := hbytes; simp only [Nat.zero_add] at hb; omega)
      have hge := grownCap_ge w m 0 e
      have hcm : grownCap w m 0 e ≤ maxLen := grownCap_le_maxLen w m 0 e (by omega)
      refine ⟨_, _, hr, ?_, by simp [hm]⟩
      simp only [Nat.zero_add, List.nil_append]
      refine Sat.row_mk (h0.drew.alloc _) hge hcm ?_ ?_
      · simp only [Array.size_append, List.size_toArray, size_zeroCells, hzs, hl, ← Nat.add_mul]
        congr 1
        omega
      · simp only [Array.toList_append]
        rw [← hl]
        exact List.take_left
  · by_cases hroom : n + m ≤ cap
    · have hfit : n * i.size + news.length ≤ cur.size := by rw [hl, a3, ← Nat.add_mul]; exact Nat.mul_le_mul_right _ hroom
      have hr := run_append_room (P := P) w t ty e i ht hi g n cap cur h0.get a m c news hl hnews h1 hroom hfit
      refine ⟨_, _, hr, Sat.row_mk (h0.upd rfl rfl rfl (setRow_heap w g cur _ e _ h0.get) fun k _ hk => setRow_other w g k _ hk) hroom a2 ?_ ?_, by simp⟩
      · simp only [List.size_toArray, List.length_append, List.length_take, List.length_drop, Array.length_toList]
        omega
      · rw [a4, ← hlen]
        exact List.take_left
    · have holds : ∀ (j : Nat) (u : Value), xs[j]? = some u → w.cell? ((⟨g, 0, none⟩ : Addr).add j) = some u := by
        rcases h.row_at with ⟨hv, _⟩ | ⟨a', c', hv, _, _, hc⟩
        · cases hv
        · cases hv; exact hc
      have hr := run_append_grow (P := P) w t ty e i z ht hi hz ⟨g, 0, none⟩ n cap xs a5 holds a m c news hl hnews (by omega) (by omega) (growslice_fits (by omega) hbytes)
      have hge := grownCap_ge w (n + m) cap e
      have hcm : grownCap w (n + m) cap e ≤ maxLen := grownCap_le_maxLen w (n + m) cap e h63
      refine ⟨_, _, hr, Sat.row_mk (Sat.alloc h0.right.drew _) hge hcm ?_ ?_, by simp⟩
      · simp only [Array.size_append, List.size_toArray, size_zeroCells, hzs, a5, hl, ← Nat.add_mul]
        congr 1
        omega
      · simp only [Array.toList_append]
        rw [← hlen]
        exact List.take_left

end

section
variable {P : Program} {u w : World} {F : HProp} {e : TypeId} {size bytes : Nat} {v x : Value} {n m : Nat} {xs news : List Value} {o : Oper} {a : Act} {ops : Array Oper} {rest : List Oper}
  {K : Act → World → Prop} {Q : Exit → Act → World → Prop}

theorem wp_append_sl (s y : Operand) (t : TypeId) (ho : o.op = .call { callee := .builtin .append, args := #[s, y], argTypes := #[t, t] })
    (i : TypeInfo) (z : Value) (ht : P.underlying t = some (.slice e)) (hi : P.info? e = some i) (hz : i.zero = some z)
    (hsize : i.size = size) (hby : i.bytes = bytes) (hzs : z.cells.size = size) (hb : 0 < bytes)
    (hs : a.eval s = v) (hy : a.eval y = x) (h : Sat u w (ownRow e size v n xs * F)) (hx : RowAt w x m news) (hl : news.length = m * size) (h1 : ∀ y ∈ news, y.oneCell' = true)
    (hbytes : (n + m) * bytes ≤ 140737488355328)
    (k : ∀ a' c' w', Sat u w' (ownRow e size (.slice a' (n + m) c') (n + m) (xs ++ news) * F) → (a' = none ↔ v = .slice none 0 0 ∧ m = 0) → K (a.put o.dst (.slice a' (n + m) c')) w') : o.wp P a w K Q := by
  obtain ⟨v', w', hr, h2, h3⟩ := h.append (P := P) t o.type i z ht hi hz hsize hby hzs hx hl h1 hbytes hb
  unfold Oper.wp execOp
  simp only [ho, resolve, invoke, builtin, Sem.run_bind, Sem.run_pure, Result.andThen_ok, List.map_toArray, List.map_cons, List.map_nil, hs, hy, hr]
  obtain ⟨a', c', hv, hc1, _⟩ := h2.row_at.len
  subst hv
  refine k a' c' w' h2 ?_
  rw [← h3]
  constructor
  · rintro rfl
    rcases h2.row_at with ⟨hv, _⟩ | ⟨_, _, hv, _⟩
    · exact hv
    · cases hv
  · intro hv
    exact (Value.slice.inj hv).1

theorem wpList_append_sl (hg : o.guard = none) (s y : Operand) (t : TypeId) (ho : o.op = .call { callee := .builtin .append, args := #[s, y], argTypes := #[t, t] })
    (i : TypeInfo) (z : Value) (ht : P.underlying t = some (.slice e)) (hi : P.info? e = some i) (hz : i.zero = some z)
    (hsize : i.size = size) (hby : i.bytes = bytes) (hzs : z.cells.size = size) (hb : 0 < bytes)
    (hs : a.eval s = v) (hy : a.eval y = x) (h : Sat u w (ownRow e size v n xs * F)) (hx : RowAt w x m news) (hl : news.length = m * size) (h1 : ∀ y ∈ news, y.oneCell' = true)
    (hbytes : (n + m) * bytes ≤ 140737488355328)
    (k : ∀ a' c' w', Sat u w' (ownRow e size (.slice a' (n + m) c') (n + m) (xs ++ news) * F) → (a' = none ↔ v = .slice none 0 0 ∧ m = 0) → wpList P ops Q rest (a.put o.dst (.slice a' (n + m) c')) w') : wpList P ops Q (o :: rest) a w :=
  wpList_plain hg fun _ hK => wp_append_sl s y t ho i z ht hi hz hsize hby hzs hb hs hy h hx hl h1 hbytes fun a' c' w' h2 h3 => hK _ _ (k a' c' w' h2 h3)
end

/-- A byte in a cell. -/
def B (c : UInt8) : Value := .int .u8 c.toNat

theorem B_one (xs : List UInt8) : ∀ y ∈ xs.map B, y.oneCell' = true := by
  intro y hy
  obtain ⟨c, _, rfl⟩ := List.mem_map.1 hy
  rfl

/-- The bytes of a slice. -/
def BytesAt (w : World) (v : Value) (xs : List UInt8) : Prop := RowAt w v xs.length (xs.map B)

#print axioms wpList_append_sl
end Go.Proofs.Ytojgdejofpafkaa
