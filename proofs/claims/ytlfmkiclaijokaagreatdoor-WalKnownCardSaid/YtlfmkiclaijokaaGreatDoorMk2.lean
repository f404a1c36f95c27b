/- Conversions between strings and bytes, over the words of Sep. No program in sight. Rows of bytes that are ours and are scribbled over. No program in sight. Rows of bytes that are shared and stay; rows of them. No program in sight. -/
import Derived.Test.YtlfmkiclaijokaaGreatDoorMk1
import Derived.Laws.BytesArg
import Derived.Lib.ConvBytes
namespace Go.Proofs.YtlfmkiclaijokaaGreatDoor
open Go.RowKit

/-- The string of bytes. -/
def str (xs : List UInt8) : ByteArray := ⟨xs.toArray⟩

@[simp] theorem str_size (xs : List UInt8) : (str xs).size = xs.length := by simp [str, ByteArray.size]
@[simp] theorem str_data (xs : List UInt8) : (str xs).data.toList = xs := rfl
theorem str_toList (xs : List UInt8) : (str xs).toList = xs := by rw [ByteArray.toList_eq, str_data]
theorem str_inj {xs ys : List UInt8} : str xs = str ys ↔ xs = ys := by
  constructor
  · intro h
    have := congrArg (fun s : ByteArray => s.data.toList) h
    simpa using this
  · rintro rfl; rfl
theorem str_append (xs ys : List UInt8) : str (xs ++ ys) = str xs ++ str ys := by
  apply ByteArray.ext
  rw [ByteArray.data_append]
  simp [str]
theorem str_of (s : ByteArray) : str s.data.toList = s := by cases s; rfl

section
variable {P : Program} {u w : World} {F : HProp}

theorem run_string_of {v : Value} {xs : List UInt8} (h : BytesAt w v xs) (src dst e : TypeId) (hs : P.underlying src = some (.slice e)) (he : P.underlying e = some (.int .u8)) (hd : P.underlying dst = some .string) :
    (convert src dst v).run P w = .ok (.string (str xs)) w := by
  rcases h with ⟨rfl, hl, _⟩ | ⟨a, c, rfl, _, _, hc⟩
  · have : xs = [] := List.eq_nil_of_length_eq_zero hl
    subst this
    exact run_convert_bytes_nil w src e hs he 0 0 dst hd
  · have hl : (loadCells a xs.length).run P w = .ok ((xs.map fun c => (c.toNat : Int)).map (Value.int .u8)).toArray w := by
      have := run_loadCells_list (P := P) w a (xs.map B) hc
      rw [List.length_map] at this
      rw [this, List.map_map]
      rfl
    rw [run_convert_bytes_string w src dst e _ _ c hs he hd, run_bytesToString w _ _ c _ hl, foldl_push_bytes]
    have : ((xs.map fun c => (c.toNat : Int)).map fun n => UInt8.ofNat n.toNat) = xs := by
      rw [List.map_map]
      conv => rhs; rw [← List.map_id xs]
      refine List.map_congr_left fun c _ => ?_
      apply UInt8.toNat_inj.1
      simp
    rw [this]
    simp [str, ByteArray.empty, ByteArray.emptyWithCapacity]
    rfl

/-- The bytes that a string was turned into: a row of our own, marked behind its end. -/
def ownT (e : TypeId) (v : Value) (xs : List UInt8) : HProp := fun r =>
  ∃ g cap cur, v = .slice (some ⟨g, 0, none⟩) xs.length cap ∧ xs.length ≤ cap ∧ cap ≤ maxLen ∧ cur.size = cap ∧ cur.toList.take xs.length = xs.map B ∧ own g (.cells cur e (cur.size, cur.size + 1)) r

theorem Sat.ownT_iff {e : TypeId} {v : Value} {xs : List UInt8} : Sat u w (ownT e v xs * F) ↔
    ∃ g cap cur, v = .slice (some ⟨g, 0, none⟩) xs.length cap ∧ xs.length ≤ cap ∧ cap ≤ maxLen ∧ cur.size = cap ∧ cur.toList.take xs.length = xs.map B ∧ Sat u w (own g (.cells cur e (cur.size, cur.size + 1)) * F) := by
  constructor
  · rintro ⟨h1, h2, h3, r, ⟨r1, r2, ⟨g, cap, cur, hv, a1, a2, a3, a4, ho⟩, p2, hok, rfl⟩, hw⟩
    exact ⟨g, cap, cur, hv, a1, a2, a3, a4, h1, h2, h3, _, ⟨r1, r2, ho, p2, hok, rfl⟩, hw⟩
  · rintro ⟨g, cap, cur, hv, a1, a2, a3, a4, h⟩
    exact h.monoL fun r hr => ⟨g, cap, cur, hv, a1, a2, a3, a4, hr⟩

theorem Sat.ownT_at {e : TypeId} {v : Value} {xs : List UInt8} (h : Sat u w (ownT e v xs * F)) : BytesAt w v xs := by
  obtain ⟨g, cap, cur, rfl, a1, a2, a3, a4, h⟩ := Sat.ownT_iff.1 h
  refine .inr ⟨⟨g, 0, none⟩, cap, rfl, a1, a2, fun j y hy => ?_⟩
  rw [addr_add, h.cell]
  rw [← a4, List.getElem?_take] at hy
  split at hy
  · simpa using hy
  · cases hy

theorem Sat.toBytes (h : Sat u w F) (e : TypeId) (s : ByteArray) (hsz : s.size ≤ 1000000000) :
    Sat u (Lib.bytesWorld w e s) (ownT e (.slice (some ⟨w.heap.size, 0, none⟩) s.size (grownCap w s.size 0 e)) s.data.toList * F) := by
  have hge := grownCap_ge w s.size 0 e
  have hcm : grownCap w s.size 0 e ≤ maxLen := grownCap_le_maxLen w s.size 0 e (by simp only [maxLen]; omega)
  have hl : s.data.toList.length = s.size := Array.length_toList
  refine Sat.ownT_iff.2 ⟨w.heap.size, grownCap w s.size 0 e, Lib.bytesCells w e s, by rw [hl], by rw [hl]; exact hge, hcm, ?_, ?_, ?_⟩
  · simp only [Lib.bytesCells, Array.size_append, Array.size_map, Array.size_replicate]
    have : s.data.size = s.size := rfl
    omega
  · simp only [Lib.bytesCells, Array.toList_append, Array.toList_map]
    have : s.data.toList.length = (s.data.toList.map fun b => Value.int .u8 b.toNat).length := by simp
    rw [this]
    exact List.take_left
  · exact h.new rfl rfl rfl (Lib.bytesWorld_at_new w e s) fun k hk => Lib.bytesWorld_at_old w e s k hk

variable {o : Oper} {a : Act} {ops : Array Oper} {rest : List Oper} {Q : Exit → Act → World → Prop} {K : Act → World → Prop}

theorem wp_convert {w' : World} {v v' : Value} (src dst : TypeId) (x : Operand) (ho : o.op = .convert src dst x) (hx : a.eval x = v) (hr : (convert src dst v).run P w = .ok v' w') (k : K (a.put o.dst v') w') : o.wp P a w K Q := by
  unfold Oper.wp execOp
  simp only [ho, hx, Sem.run_bind, hr, Result.andThen_ok]
  exact k

theorem wpList_toBytes (hg : o.guard = none) (src dst e : TypeId) (x : Operand) {t : TypeDesc} (ho : o.op = .convert src dst x) (s : ByteArray) (hx : a.eval x = .string s)
    (hs : P.underlying src = some t) (hd : P.underlying dst = some (.slice e)) (he : P.underlying e = some (.int .u8)) (h : Sat u w F) (hsz : s.size ≤ 1000000000)
    (k : ∀ a' c' w', Sat u w' (ownT e (.slice (some a') s.size c') s.data.toList * F) → wpList P ops Q rest (a.put o.dst (.slice (some a') s.size c')) w') : wpList P ops Q (o :: rest) a w :=
  wpList_plain hg fun _ hK => wp_convert src dst x ho hx (Lib.run_convert_string_bytes w src dst e s hs hd he) (hK _ _ (k _ _ _ (h.toBytes e s hsz)))

theorem wpList_toString (hg : o.guard = none) (src dst e : TypeId) (x : Operand) (ho : o.op = .convert src dst x) {v : Value} {xs : List UInt8} (hx : a.eval x = v) (h : BytesAt w v xs)
    (hs : P.underlying src = some (.slice e)) (he : P.underlying e = some (.int .u8)) (hd : P.underlying dst = some .string)
    (k : wpList P ops Q rest (a.put o.dst (.string (str xs))) w) : wpList P ops Q (o :: rest) a w :=
  wpList_plain hg fun _ hK => wp_convert src dst x ho hx (run_string_of h src dst e hs he hd) (hK _ _ k)
end

#print axioms wpList_toBytes
end Go.Proofs.YtlfmkiclaijokaaGreatDoor

namespace Go.Proofs.YtlfmkiclaijokaaGreatDoor
open Go.RowKit

/-- The block g is ours; its first n cells are bytes, whatever they are. -/
def scr (e : TypeId) (g n : Nat) : HProp := fun r =>
  ∃ cur fr, own g (.cells cur e fr) r ∧ (fr = (0, 0) ∨ fr.1 = cur.size) ∧ ∀ i, i < n → ∃ x : Int, cur[i]? = some (.int .u8 x)

section
variable {u w : World} {F : HProp} {e : TypeId} {g n : Nat}

theorem Sat.scr_iff : Sat u w (scr e g n * F) ↔ ∃ cur fr, (fr = (0, 0) ∨ fr.1 = cur.size) ∧ (∀ i, i < n → ∃ x : Int, cur[i]? = some (.int .u8 x)) ∧ Sat u w (own g (.cells cur e fr) * F) := by
  constructor
  · rintro ⟨h1, h2, h3, r, ⟨r1, r2, ⟨cur, fr, ho, a1, a2⟩, p2, hok, rfl⟩, hw⟩
    exact ⟨cur, fr, a1, a2, h1, h2, h3, _, ⟨r1, r2, ho, p2, hok, rfl⟩, hw⟩
  · rintro ⟨cur, fr, a1, a2, h⟩
    exact h.monoL fun r hr => ⟨cur, fr, hr, a1, a2⟩

theorem Sat.scr_get (h : Sat u w (scr e g n * F)) {i : Nat} (hi : i < n) : ∃ x : Int, w.cell? ⟨g, i, none⟩ = some (.int .u8 x) ∧ w.frozen? ⟨g, i, none⟩ = false := by
  obtain ⟨cur, fr, a1, a2, h⟩ := Sat.scr_iff.1 h
  obtain ⟨x, hx⟩ := a2 i hi
  refine ⟨x, by rw [h.cell, hx], ?_⟩
  have hlt : i < cur.size := (Array.getElem?_eq_some_iff.1 hx).1
  simp only [World.frozen?, h.get]
  rcases fr with ⟨lo, hi'⟩
  rcases a1 with a1 | a1
  · cases a1; simp
  · simp only at a1; simp; omega

theorem Sat.scr_set (h : Sat u w (scr e g n * F)) (i : Nat) (x : Int) : Sat u (w.setCell ⟨g, i, none⟩ (.int .u8 x)) (scr e g n * F) := by
  obtain ⟨cur, fr, a1, a2, h⟩ := Sat.scr_iff.1 h
  refine Sat.scr_iff.2 ⟨_, fr, by simpa using a1, fun j hj => ?_, h.setCell i _⟩
  obtain ⟨y, hy⟩ := a2 j hj
  by_cases e : i = j
  · subst e
    have hlt : i < cur.size := (Array.getElem?_eq_some_iff.1 hy).1
    exact ⟨x, by simp [hlt]⟩
  · exact ⟨y, by rw [Array.getElem?_setIfInBounds_ne e]; exact hy⟩

theorem take_bytes {cur : Array Value} {xs : List UInt8} (h : cur.toList.take xs.length = xs.map B) (i : Nat) (hi : i < xs.length) : ∃ x : Int, cur[i]? = some (.int .u8 x) := by
  refine ⟨(xs[i]).toNat, ?_⟩
  have : (xs.map B)[i]? = some (B xs[i]) := by simp [hi]
  rw [← h, List.getElem?_take, if_pos hi] at this
  simpa [B] using this

theorem Sat.scr_ofT {a : Addr} {m c : Nat} {xs : List UInt8} (h : Sat u w (ownT e (.slice (some a) m c) xs * F)) : ∃ g, a = ⟨g, 0, none⟩ ∧ m = xs.length ∧ Sat u w (scr e g xs.length * F) := by
  obtain ⟨g, cap, cur, hv, a1, a2, a3, a4, h'⟩ := Sat.ownT_iff.1 h
  cases hv
  exact ⟨g, rfl, rfl, Sat.scr_iff.2 ⟨cur, _, .inr rfl, take_bytes a4, h'⟩⟩

theorem Sat.scr_ofRow {a : Option Addr} {m c : Nat} {xs : List UInt8} (h : Sat u w (ownRow e 1 (.slice a m c) xs.length (xs.map B) * F)) :
    m = xs.length ∧ ((a = none ∧ xs = [] ∧ Sat u w F) ∨ ∃ g, a = some ⟨g, 0, none⟩ ∧ Sat u w (scr e g xs.length * F)) := by
  rcases Sat.row_iff.1 h with ⟨hv, _, hx, h'⟩ | ⟨g, cap, cur, hv, a1, a2, a3, a4, _, h'⟩
  · cases hv
    have : xs = [] := List.map_eq_nil_iff.1 hx
    subst this
    exact ⟨rfl, .inl ⟨rfl, rfl, h'⟩⟩
  · cases hv
    rw [Nat.mul_one] at a4
    exact ⟨rfl, .inr ⟨g, rfl, Sat.scr_iff.2 ⟨cur, _, .inl rfl, take_bytes a4, h'⟩⟩⟩

/-- The same of a slice's address, nil or not. -/
def scrV (e : TypeId) (a : Option Addr) (n : Nat) : HProp := fun r => (a = none ∧ n = 0 ∧ r = fun _ => none) ∨ ∃ g, a = some ⟨g, 0, none⟩ ∧ scr e g n r

theorem Sat.scrV_iff {a : Option Addr} : Sat u w (scrV e a n * F) ↔ (a = none ∧ n = 0 ∧ Sat u w F) ∨ ∃ g, a = some ⟨g, 0, none⟩ ∧ Sat u w (scr e g n * F) := by
  constructor
  · rintro ⟨h1, h2, h3, r, ⟨r1, r2, hr | ⟨g, hg, ho⟩, p2, hok, rfl⟩, hw⟩
    · obtain ⟨rfl, rfl, rfl⟩ := hr
      exact .inl ⟨rfl, rfl, h1, h2, h3, r2, p2, fun b q o hb => hw b q o (by simpa [joAt] using hb)⟩
    · exact .inr ⟨g, hg, h1, h2, h3, _, ⟨r1, r2, ho, p2, hok, rfl⟩, hw⟩
  · rintro (⟨rfl, rfl, h⟩ | ⟨g, hg, h⟩)
    · exact h.mono fun r hr => ⟨fun _ => none, r, .inl ⟨rfl, rfl, rfl⟩, hr, fun _ => trivial, by simp [joAt]⟩
    · exact h.monoL fun r hr => .inr ⟨g, hg, hr⟩

theorem Sat.scrV_get {a : Option Addr} (h : Sat u w (scrV e a n * F)) {i : Nat} (hi : i < n) : ∃ g, a = some ⟨g, 0, none⟩ ∧ Sat u w (scr e g n * F) := by
  rcases Sat.scrV_iff.1 h with ⟨_, rfl, _⟩ | h
  · omega
  · exact h

theorem Sat.scrV_of {a : Option Addr} {m c : Nat} {xs : List UInt8} (h : Sat u w (ownRow e 1 (.slice a m c) xs.length (xs.map B) * F)) : Sat u w (scrV e a xs.length * F) := by
  obtain ⟨_, ⟨h1, h2, h3⟩ | ⟨g, h1, h2⟩⟩ := h.scr_ofRow
  · exact Sat.scrV_iff.2 (.inl ⟨h1, by rw [h2]; rfl, h3⟩)
  · exact Sat.scrV_iff.2 (.inr ⟨g, h1, h2⟩)
end
#print axioms Sat.scr_ofRow
end Go.Proofs.YtlfmkiclaijokaaGreatDoor

namespace Go.Proofs.YtlfmkiclaijokaaGreatDoor
open Go.RowKit

/-- The slice v has the bytes xs, for good. -/
def roB (v : Value) (xs : List UInt8) : HProp := fun r =>
  (v = .slice none 0 0 ∧ xs = [] ∧ r = fun _ => none) ∨
  ∃ g o c cur e fr, v = .slice (some ⟨g, o, none⟩) xs.length c ∧ xs.length ≤ c ∧ c ≤ maxLen ∧ (∀ (j : Nat) (y : UInt8), xs[j]? = some y → cur[o + j]? = some (.int .u8 (y.toNat : Int))) ∧ ro g (.cells cur e fr) r

section
variable {u w : World} {F : HProp} {v : Value} {xs : List UInt8}

theorem Sat.roB_iff : Sat u w (roB v xs * F) ↔
    (v = .slice none 0 0 ∧ xs = [] ∧ Sat u w F) ∨
    ∃ g o c cur e fr, v = .slice (some ⟨g, o, none⟩) xs.length c ∧ xs.length ≤ c ∧ c ≤ maxLen ∧ (∀ (j : Nat) (y : UInt8), xs[j]? = some y → cur[o + j]? = some (.int .u8 (y.toNat : Int))) ∧ Sat u w (ro g (.cells cur e fr) * F) := by
  constructor
  · rintro ⟨h1, h2, h3, r, ⟨r1, r2, hr | ⟨g, o, c, cur, e, fr, hv, a1, a2, a3, ho⟩, p2, hok, rfl⟩, hw⟩
    · obtain ⟨rfl, rfl, rfl⟩ := hr
      exact .inl ⟨rfl, rfl, h1, h2, h3, r2, p2, fun b q o hb => hw b q o (by simpa [joAt] using hb)⟩
    · exact .inr ⟨g, o, c, cur, e, fr, hv, a1, a2, a3, h1, h2, h3, _, ⟨r1, r2, ho, p2, hok, rfl⟩, hw⟩
  · rintro (⟨rfl, rfl, h⟩ | ⟨g, o, c, cur, e, fr, hv, a1, a2, a3, h⟩)
    · exact h.mono fun r hr => ⟨fun _ => none, r, .inl ⟨rfl, rfl, rfl⟩, hr, fun _ => trivial, by simp [joAt]⟩
    · exact h.monoL fun r hr => .inr ⟨g, o, c, cur, e, fr, hv, a1, a2, a3, hr⟩

theorem Sat.getro {b : Nat} {o : Obj} (h : Sat u w (ro b o * F)) : w.heap[b]? = some o := h.getr

theorem Sat.roB_at (h : Sat u w (roB v xs * F)) : BytesAt w v xs := by
  rcases Sat.roB_iff.1 h with ⟨rfl, rfl, _⟩ | ⟨g, o, c, cur, e, fr, rfl, a1, a2, a3, h⟩
  · exact .inl ⟨rfl, rfl, rfl⟩
  · refine .inr ⟨⟨g, o, none⟩, c, rfl, a1, a2, fun j y hy => ?_⟩
    rw [addr_add_at]
    have hb := h.getr
    rw [List.getElem?_map] at hy
    rcases hx : xs[j]? with _ | z
    · rw [hx] at hy; cases hy
    · rw [hx] at hy
      cases hy
      simp only [World.cell?, hb]
      exact a3 j z hx

/-- It may be had twice. -/
theorem roB_dup : roB v xs * roB v xs = roB v xs := by
  have key : ∀ r, roB v xs r → (∀ b, okAt (r b) (r b)) ∧ (fun b => joAt (r b) (r b)) = r := by
    rintro r (⟨_, _, rfl⟩ | ⟨g, o, c, cur, e, fr, _, _, _, _, rfl⟩)
    · exact ⟨fun _ => trivial, rfl⟩
    · refine ⟨fun b => ?_, funext fun b => ?_⟩ <;> by_cases h : b = g <;> simp [h, okAt, joAt]
  funext r
  apply propext
  constructor
  · rintro ⟨r1, r2, h1, h2, hok, rfl⟩
    rcases h1 with ⟨hv, hx, rfl⟩ | ⟨g, o, c, cur, e, fr, hv, a1, a2, a3, rfl⟩
    · rcases h2 with ⟨_, _, rfl⟩ | ⟨g', o', c', cur', e', fr', hv', _⟩
      · exact .inl ⟨hv, hx, rfl⟩
      · rw [hv] at hv'; cases hv'
    · rcases h2 with ⟨hv', _, _⟩ | ⟨g', o', c', cur', e', fr', hv', _, _, _, rfl⟩
      · rw [hv] at hv'; cases hv'
      · rw [hv] at hv'
        cases hv'
        have := hok g
        simp only [if_true, okAt] at this
        cases this
        refine .inr ⟨g, o, c, cur, e, fr, hv, a1, a2, a3, funext fun b => ?_⟩
        by_cases h : b = g <;> simp [h, joAt]
  · intro h
    obtain ⟨h1, h2⟩ := key r h
    exact ⟨r, r, h, h, h1, h2.symm⟩

theorem Sat.roB_dup (h : Sat u w (roB v xs * F)) : Sat u w (roB v xs * (roB v xs * F)) := by
  rw [← star_assoc, Go.Proofs.YtlfmkiclaijokaaGreatDoor.roB_dup]; exact h

theorem Sat.roB_nil (h : Sat u w F) : Sat u w (roB (.slice none 0 0) [] * F) := Sat.roB_iff.2 (.inl ⟨rfl, rfl, h⟩)

/-- What is ours may be shared. -/
theorem Sat.roB_own {e : TypeId} (h : Sat u w (ownRow e 1 v xs.length (xs.map B) * F)) : Sat u w (roB v xs * F) := by
  rcases Sat.row_iff.1 h with ⟨rfl, _, hx, h'⟩ | ⟨g, cap, cur, rfl, a1, a2, a3, a4, _, h'⟩
  · exact Sat.roB_iff.2 (.inl ⟨rfl, List.map_eq_nil_iff.1 hx, h'⟩)
  · refine Sat.roB_iff.2 (.inr ⟨g, 0, cap, cur, e, (0, 0), rfl, a1, a2, fun j y hy => ?_, h'.share⟩)
    have hj : j < xs.length := (List.getElem?_eq_some_iff.1 hy).1
    have e1 : (cur.toList.take (xs.length * 1))[j]? = (xs.map B)[j]? := by rw [a4]
    rw [List.getElem?_take, if_pos (by omega), List.getElem?_map, hy] at e1
    rw [Nat.zero_add, ← Array.getElem?_toList, e1]
    rfl

theorem Sat.roB_ownT {e : TypeId} (h : Sat u w (ownT e v xs * F)) : Sat u w (roB v xs * F) := by
  obtain ⟨g, cap, cur, rfl, a1, a2, a3, a4, h'⟩ := Sat.ownT_iff.1 h
  refine Sat.roB_iff.2 (.inr ⟨g, 0, cap, cur, e, _, rfl, a1, a2, fun j y hy => ?_, h'.share⟩)
  have hj : j < xs.length := (List.getElem?_eq_some_iff.1 hy).1
  have e1 : (cur.toList.take xs.length)[j]? = (xs.map B)[j]? := by rw [a4]
  rw [List.getElem?_take, if_pos hj, List.getElem?_map, hy] at e1
  rw [Nat.zero_add, ← Array.getElem?_toList, e1]
  rfl

/-- A part of it. -/
theorem Sat.roB_part {g o n c : Nat} (h : Sat u w (roB (.slice (some ⟨g, o, none⟩) n c) xs * F)) (k m c' : Nat) (hm : k + m ≤ xs.length) (h1 : m ≤ c') (h2 : c' ≤ maxLen) :
    Sat u w (roB (.slice (some ⟨g, o + k, none⟩) m c') ((xs.drop k).take m) * F) := by
  rcases Sat.roB_iff.1 h with ⟨hv, _⟩ | ⟨g', o', c0, cur, e, fr, hv, a1, a2, a3, h'⟩
  · cases hv
  · cases hv
    have hl : ((xs.drop k).take m).length = m := by simp; omega
    refine Sat.roB_iff.2 (.inr ⟨g, o + k, c', cur, e, fr, by rw [hl], by rw [hl]; exact h1, h2, fun j y hy => ?_, h'⟩)
    rw [List.getElem?_take] at hy
    split at hy
    · rw [List.getElem?_drop] at hy
      have := a3 (k + j) y hy
      rwa [← Nat.add_assoc] at this
    · cases hy
end
end Go.Proofs.YtlfmkiclaijokaaGreatDoor
