/- Conversions between strings and bytes, over the words of Sep. No program in sight. -/
import Derived.Test.YtojgdejofpafkaaSepRow
import Derived.Laws.BytesArg
import Derived.Lib.ConvBytes
namespace Go.Proofs.Ytojgdejofpafkaa
open Go.RowKit

/-- The string of bytes. -/
def str (xs : List UInt8) : ByteArray := ⟨xs.toArray⟩

@[simp] theorem str_size (xs : List UInt8) : (str xs).size = xs.length := by simp [str, ByteArray.size]
@[simp] theorem str_data (xs : List UInt8) : (str xs).data.toList = xs := rfl
theorem str_toList (xs : List UInt8) : (str xs).toList = xs := by rw [ByteArray.toList_eq, str_data]
theorem str_inj {xs ys : List UInt8} : str xs = str ys ↔ xs = ys := by
  constructor
  · intro h
    have := congrArg (fun s : ByteArray => s.data.toList) h
    simpa using this
  · rintro rfl; rfl
theorem str_append (xs ys : List UInt8) : str (xs ++ ys) = str xs ++ str ys := by
  apply ByteArray.ext
  rw [ByteArray.data_append]
  simp [str]
theorem str_of (s : ByteArray) : str s.data.toList = s := by cases s; rfl

section
variable {P : Program} {u w : World} {F : HProp}

theorem run_string_of {v : Value} {xs : List UInt8} (h : BytesAt w v xs) (src dst e : TypeId) (hs : P.underlying src = some (.slice e)) (he : P.underlying e = some (.int .u8)) (hd : P.underlying dst = some .string) :
    (convert src dst v).run P w = .ok (.string (str xs)) w := by
  rcases h with ⟨rfl, hl, _⟩ | ⟨a, c, rfl, _, _, hc⟩
  · have : xs = [] := List.eq_nil_of_length_eq_zero hl
    subst this
    exact run_convert_bytes_nil w src e hs he 0 0 dst hd
  · have hl : (loadCells a xs.length).run P w = .ok ((xs.map fun c => (c.toNat : Int)).map (Value.int .u8)).toArray w := by
      have := run_loadCells_list (P := P) w a (xs.map B) hc
      rw [List.length_map] at this
      rw [this, List.map_map]
      rfl
    rw [run_convert_bytes_string w src dst e _ _ c hs he hd, run_bytesToString w _ _ c _ hl, foldl_push_bytes]
    have : ((xs.map fun c => (c.toNat : Int)).map fun n => UInt8.ofNat n.toNat) = xs := by
      rw [List.map_map]
      conv => rhs; rw [← List.map_id xs]
      refine List.map_congr_left fun c _ => ?_
      apply UInt8.toNat_inj.1
      simp
    rw [this]
    simp [str, ByteArray.empty, ByteArray.emptyWithCapacity]
    rfl

/-- The bytes that a string was turned into: a row of our own, marked behind its end. -/
def ownT (e : TypeId) (v : Value) (xs : List UInt8) : HProp := fun r =>
  ∃ g cap cur, v = .slice (some ⟨g, 0, none⟩) xs.length cap ∧ xs.length ≤ cap ∧ cap ≤ maxLen ∧ cur.size = cap ∧ cur.toList.take xs.length = xs.map B ∧ own g (.cells cur e (cur.size, cur.size + 1)) r

theorem Sat.ownT_iff {e : TypeId} {v : Value} {xs : List UInt8} : Sat u w (ownT e v xs * F) ↔
    ∃ g cap cur, v = .slice (some ⟨g, 0, none⟩) xs.length cap ∧ xs.length ≤ cap ∧ cap ≤ maxLen ∧ cur.size = cap ∧ cur.toList.take xs.length = xs.map B ∧ Sat u w (own g (.cells cur e (cur.size, cur.size + 1)) * F) := by
  constructor
  · rintro ⟨h1, h2, h3, r, ⟨r1, r2, ⟨g, cap, cur, hv, a1, a2, a3, a4, ho⟩, p2, hok, rfl⟩, hw⟩
    exact ⟨g, cap, cur, hv, a1, a2, a3, a4, h1, h2, h3, _, ⟨r1, r2, ho, p2, hok, rfl⟩, hw⟩
  · rintro ⟨g, cap, cur, hv, a1, a2, a3, a4, h⟩
    exact h.monoL fun r hr => ⟨g, cap, cur, hv, a1, a2, a3, a4, hr⟩

theorem Sat.ownT_at {e : TypeId} {v : Value} {xs : List UInt8} (h : Sat u w (ownT e v xs * F)) : BytesAt w v xs := by
  obtain ⟨g, cap, cur, rfl, a1, a2, a3, a4, h⟩ := Sat.ownT_iff.1 h
  refine .inr ⟨⟨g, 0, none⟩, cap, rfl, a1, a2, fun j y hy => ?_⟩
  rw [addr_add, h.cell]
  rw [← a4, List.getElem?_take] at hy
  split at hy
  · simpa using hy
  · cases hy

theorem Sat.toBytes (h : Sat u w F) (e : TypeId) (s : ByteArray) (hsz : s.size ≤ 1000000000) :
    Sat u (Lib.bytesWorld w e s) (ownT e (.slice (some ⟨w.heap.size, 0, none⟩) s.size (grownCap w s.size 0 e)) s.data.toList * F) := by
  have hge := grownCap_ge w s.size 0 e
  have hcm : grownCap w s.size 0 e ≤ maxLen := grownCap_le_maxLen w s.size 0 e (by simp only [maxLen]; omega)
  have hl : s.data.toList.length = s.size := Array.length_toList
  refine Sat.ownT_iff.2 ⟨w.heap.size, grownCap w s.size 0 e, Lib.bytesCells w e s, by rw [hl], by rw [hl]; exact hge, hcm, ?_, ?_, ?_⟩
  · simp only [Lib.bytesCells, Array.size_append, Array.size_map, Array.size_replicate]
    have : s.data.size = s.size := rfl
    omega
  · simp only [Lib.bytesCells, Array.toList_append, Array.toList_map]
    have : s.data.toList.length = (s.data.toList.map fun b => Value.int .u8 b.toNat).length := by simp
    rw [this]
    exact List.take_left
  · exact h.new rfl rfl rfl (Lib.bytesWorld_at_new w e s) fun k hk => Lib.bytesWorld_at_old w e s k hk

variable {o : Oper} {a : Act} {ops : Array Oper} {rest : List Oper} {Q : Exit → Act → World → Prop} {K : Act → World → Prop}

theorem wp_convert {w' : World} {v v' : Value} (src dst : TypeId) (x : Operand) (ho : o.op = .convert src dst x) (hx : a.eval x = v) (hr : (convert src dst v).run P w = .ok v' w') (k : K (a.put o.dst v') w') : o.wp P a w K Q := by
  unfold Oper.wp execOp
  simp only [ho, hx, Sem.run_bind, hr, Result.andThen_ok]
  exact k

theorem wpList_toBytes (hg : o.guard = none) (src dst e : TypeId) (x : Operand) {t : TypeDesc} (ho : o.op = .convert src dst x) (s : ByteArray) (hx : a.eval x = .string s)
    (hs : P.underlying src = some t) (hd : P.underlying dst = some (.slice e)) (he : P.underlying e = some (.int .u8)) (h : Sat u w F) (hsz : s.size ≤ 1000000000)
    (k : ∀ a' c' w', Sat u w' (ownT e (.slice (some a') s.size c') s.data.toList * F) → wpList P ops Q rest (a.put o.dst (.slice (some a') s.size c')) w') : wpList P ops Q (o :: rest) a w :=
  wpList_plain hg fun _ hK => wp_convert src dst x ho hx (Lib.run_convert_string_bytes w src dst e s hs hd he) (hK _ _ (k _ _ _ (h.toBytes e s hsz)))

theorem wpList_toString (hg : o.guard = none) (src dst e : TypeId) (x : Operand) (ho : o.op = .convert src dst x) {v : Value} {xs : List UInt8} (hx : a.eval x = v) (h : BytesAt w v xs)
    (hs : P.underlying src = some (.slice e)) (he : P.underlying e = some (.int .u8)) (hd : P.underlying dst = some .string)
    (k : wpList P ops Q rest (a.put o.dst (.string (str xs))) w) : wpList P ops Q (o :: rest) a w :=
  wpList_plain hg fun _ hK => wp_convert src dst x ho hx (run_string_of h src dst e hs he hd) (hK _ _ k)
end

#print axioms wpList_toBytes
end Go.Proofs.Ytojgdejofpafkaa
