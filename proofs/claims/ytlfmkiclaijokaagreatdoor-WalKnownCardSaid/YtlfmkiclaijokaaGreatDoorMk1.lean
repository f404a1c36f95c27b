/- A small separation logic over the model's worlds: who owns which block, which blocks are shared and only read. No program in sight. Rows that are owned, rows that are read; append over them. No program in sight. Rows of elements of so many cells each. No program in sight. -/
import Derived.WalkKit
import Derived.WalkSpells
import Derived.Deep.Draws
import Derived.Laws.OwnMore
namespace Go.Proofs.YtlfmkiclaijokaaGreatDoor
open Go.RowKit

/-- What is known of each block: nothing; or its object, owned (true) or shared (false). -/
abbrev Res : Type := Nat → Option (Bool × Obj)

def okAt : Option (Bool × Obj) → Option (Bool × Obj) → Prop
  | some (false, o), some (false, o') => o = o'
  | some _, some _ => False
  | _, _ => True

def joAt : Option (Bool × Obj) → Option (Bool × Obj) → Option (Bool × Obj)
  | some v, _ => some v
  | none, y => y

theorem joAt_comm {x y : Option (Bool × Obj)} (h : okAt x y) : joAt x y = joAt y x := by
  rcases x with _ | ⟨_ | _, o⟩ <;> rcases y with _ | ⟨_ | _, o'⟩ <;> simp_all [okAt, joAt]

theorem okAt_comm {x y : Option (Bool × Obj)} (h : okAt x y) : okAt y x := by
  rcases x with _ | ⟨_ | _, o⟩ <;> rcases y with _ | ⟨_ | _, o'⟩ <;> simp_all [okAt]

theorem joAt_assoc (x y z : Option (Bool × Obj)) : joAt (joAt x y) z = joAt x (joAt y z) := by
  rcases x with _ | v <;> rfl

theorem okAt_assoc {x y z : Option (Bool × Obj)} (h : okAt x y) (k : okAt (joAt x y) z) : okAt y z ∧ okAt x (joAt y z) := by
  rcases x with _ | ⟨_ | _, o⟩ <;> rcases y with _ | ⟨_ | _, o'⟩ <;> rcases z with _ | ⟨_ | _, o''⟩ <;> simp_all [okAt, joAt]

/-- An assertion. -/
def HProp : Type := Res → Prop

def star (P Q : HProp) : HProp := fun r => ∃ r1 r2, P r1 ∧ Q r2 ∧ (∀ b, okAt (r1 b) (r2 b)) ∧ r = fun b => joAt (r1 b) (r2 b)

instance : Mul HProp := ⟨star⟩

theorem star_def (P Q : HProp) (r : Res) : (P * Q) r ↔ ∃ r1 r2, P r1 ∧ Q r2 ∧ (∀ b, okAt (r1 b) (r2 b)) ∧ r = fun b => joAt (r1 b) (r2 b) := Iff.rfl

theorem star_comm (P Q : HProp) : P * Q = Q * P := by
  funext r
  apply propext
  constructor <;> (rintro ⟨r1, r2, h1, h2, hok, rfl⟩; exact ⟨r2, r1, h2, h1, fun b => okAt_comm (hok b), funext fun b => joAt_comm (hok b)⟩)

theorem star_assoc (P Q R : HProp) : P * Q * R = P * (Q * R) := by
  have key : ∀ (P Q R : HProp) (r : Res), (P * Q * R) r → (P * (Q * R)) r := by
    rintro P Q R r ⟨r12, r3, ⟨r1, r2, h1, h2, hok, rfl⟩, h3, hok3, rfl⟩
    refine ⟨r1, fun b => joAt (r2 b) (r3 b), h1, ⟨r2, r3, h2, h3, fun b => (okAt_assoc (hok b) (hok3 b)).1, rfl⟩, fun b => (okAt_assoc (hok b) (hok3 b)).2, funext fun b => joAt_assoc _ _ _⟩
  funext r
  apply propext
  constructor
  · exact key P Q R r
  · intro h
    rw [star_comm P (Q * R), star_comm Q R] at h
    have := key R Q P r h
    rw [star_comm R (Q * P), star_comm Q P] at this
    exact this

theorem star_left_comm (P Q R : HProp) : P * (Q * R) = Q * (P * R) := by rw [← star_assoc, star_comm P Q, star_assoc]

instance : Std.Commutative (α := HProp) (· * ·) := ⟨star_comm⟩
instance : Std.Associative (α := HProp) (· * ·) := ⟨star_assoc⟩

/-- The block b is ours, and holds o. -/
def own (b : Nat) (o : Obj) : HProp := fun r => r = fun k => if k = b then some (true, o) else none
/-- The block b holds o, for good. -/
def ro (b : Nat) (o : Obj) : HProp := fun r => r = fun k => if k = b then some (false, o) else none
/-- A fact that speaks of no block. -/
def fact (p : Prop) : HProp := fun r => p ∧ r = fun _ => none
def ex {α : Type} (P : α → HProp) : HProp := fun r => ∃ a, P a r
/-- All blocks of a world, for good. -/
def allro (w : World) : HProp := fun r => r = fun k => (w.heap[k]?).map fun o => (false, o)

/-- The world w bears P; its streams and its tape are u's. -/
structure Sat (u w : World) (P : HProp) : Prop where
  os : w.os = u.os
  tape : w.tape = u.tape
  output : w.output = u.output
  has : ∃ r, P r ∧ ∀ b q o, r b = some (q, o) → w.heap[b]? = some o

section
variable {u w : World} {P Q R F : HProp} {b : Nat} {o : Obj}

theorem Sat.mono (h : Sat u w P) (k : ∀ r, P r → Q r) : Sat u w Q :=
  ⟨h.os, h.tape, h.output, let ⟨r, hr, hw⟩ := h.has; ⟨r, k r hr, hw⟩⟩

theorem Sat.eq (h : Sat u w P) (k : P = Q) : Sat u w Q := k ▸ h

theorem Sat.left (h : Sat u w (P * Q)) : Sat u w P := by
  obtain ⟨h1, h2, h3, r, ⟨r1, r2, p1, p2, hok, rfl⟩, hw⟩ := h
  refine ⟨h1, h2, h3, r1, p1, fun b q o hb => hw b q o ?_⟩
  simp [hb, joAt]

theorem Sat.right (h : Sat u w (P * Q)) : Sat u w Q := (h.eq (star_comm P Q)).left

theorem Sat.s2 (h : Sat u w (P * (Q * R))) : Sat u w (Q * (P * R)) := h.eq (star_left_comm P Q R)
theorem Sat.dr (h : Sat u w (P * (Q * R))) : Sat u w (P * R) := h.s2.right
theorem Sat.sw (h : Sat u w (P * Q)) : Sat u w (Q * P) := h.eq (star_comm P Q)
theorem Sat.as (h : Sat u w (P * Q * R)) : Sat u w (P * (Q * R)) := h.eq (star_assoc P Q R)
theorem Sat.sa (h : Sat u w (P * (Q * R))) : Sat u w (P * Q * R) := h.eq (star_assoc P Q R).symm
theorem Sat.s3 {A B C : HProp} (h : Sat u w (A * (B * (C * F)))) : Sat u w (C * (A * (B * F))) := h.eq (by ac_rfl)
theorem Sat.s4 {A B C D : HProp} (h : Sat u w (A * (B * (C * (D * F))))) : Sat u w (D * (A * (B * (C * F)))) := h.eq (by ac_rfl)
theorem Sat.s5 {A B C D G : HProp} (h : Sat u w (A * (B * (C * (D * (G * F)))))) : Sat u w (G * (A * (B * (C * (D * F))))) := h.eq (by ac_rfl)
theorem Sat.s6 {A B C D G H : HProp} (h : Sat u w (A * (B * (C * (D * (G * (H * F))))))) : Sat u w (H * (A * (B * (C * (D * (G * F)))))) := h.eq (by ac_rfl)

theorem star_mono {P P' Q Q' : HProp} (h1 : ∀ r, P r → P' r) (h2 : ∀ r, Q r → Q' r) : ∀ r, (P * Q) r → (P' * Q') r := by
  rintro r ⟨r1, r2, p1, p2, hok, rfl⟩
  exact ⟨r1, r2, h1 _ p1, h2 _ p2, hok, rfl⟩

theorem Sat.monoL {P' : HProp} (h : Sat u w (P * Q)) (k : ∀ r, P r → P' r) : Sat u w (P' * Q) := h.mono (star_mono k fun _ x => x)
theorem Sat.monoR {Q' : HProp} (h : Sat u w (P * Q)) (k : ∀ r, Q r → Q' r) : Sat u w (P * Q') := h.mono (star_mono (fun _ x => x) k)

theorem Sat.get (h : Sat u w (own b o * F)) : w.heap[b]? = some o := by
  obtain ⟨_, _, _, r, ⟨r1, r2, rfl, p2, hok, rfl⟩, hw⟩ := h
  exact hw b true o (by simp [joAt])

theorem Sat.getr (h : Sat u w (ro b o * F)) : w.heap[b]? = some o := by
  obtain ⟨_, _, _, r, ⟨r1, r2, rfl, p2, hok, rfl⟩, hw⟩ := h
  exact hw b false o (by simp [joAt])

theorem Sat.lt (h : Sat u w (own b o * F)) : b < w.heap.size := by
  have := h.get
  exact (Array.getElem?_eq_some_iff.1 this).1

theorem star_fact {p : Prop} (r : Res) : (fact p * P) r ↔ p ∧ P r := by
  constructor
  · rintro ⟨r1, r2, ⟨hp, rfl⟩, p2, _, rfl⟩
    exact ⟨hp, by simpa [joAt] using p2⟩
  · rintro ⟨hp, h⟩
    exact ⟨fun _ => none, r, ⟨hp, rfl⟩, h, fun _ => trivial, by simp [joAt]⟩

theorem Sat.fact_iff {p : Prop} : Sat u w (fact p * P) ↔ p ∧ Sat u w P := by
  constructor
  · intro h
    obtain ⟨r, hr, _⟩ := h.has
    exact ⟨((star_fact r).1 hr).1, h.mono fun r hr => ((star_fact r).1 hr).2⟩
  · rintro ⟨hp, h⟩
    exact h.mono fun r hr => (star_fact r).2 ⟨hp, hr⟩

theorem Sat.ex_iff {α : Type} {G : α → HProp} : Sat u w (ex G * P) ↔ ∃ a, Sat u w (G a * P) := by
  constructor
  · rintro ⟨h1, h2, h3, r, ⟨r1, r2, ⟨a, ha⟩, p2, hok, rfl⟩, hw⟩
    exact ⟨a, h1, h2, h3, _, ⟨r1, r2, ha, p2, hok, rfl⟩, hw⟩
  · rintro ⟨a, h⟩
    exact h.monoL fun r hr => ⟨a, hr⟩

/-- A world of which all blocks are as they were, and the streams. -/
theorem Sat.ext {w' : World} (h : Sat u w P) (h1 : w'.os = w.os) (h2 : w'.tape = w.tape) (h3 : w'.output = w.output)
    (hk : ∀ k, k < w.heap.size → w'.heap[k]? = w.heap[k]?) : Sat u w' P := by
  obtain ⟨a1, a2, a3, r, hr, hw⟩ := h
  refine ⟨h1.trans a1, h2.trans a2, h3.trans a3, r, hr, fun b q o hb => ?_⟩
  have := hw b q o hb
  rw [hk b (Array.getElem?_eq_some_iff.1 this).1]
  exact this

theorem Sat.drew (h : Sat u w P) : Sat u w.drew P := h.ext rfl rfl rfl fun _ _ => rfl
theorem Sat.drewN (h : Sat u w P) (n : Nat) : Sat u (w.drewN n) P := h.ext rfl rfl rfl fun _ _ => rfl

/-- One block of ours turns; there may be new ones. -/
theorem Sat.upd {w' : World} {o' : Obj} (h : Sat u w (own b o * F)) (h1 : w'.os = w.os) (h2 : w'.tape = w.tape) (h3 : w'.output = w.output)
    (hb : w'.heap[b]? = some o') (hk : ∀ k, k < w.heap.size → k ≠ b → w'.heap[k]? = w.heap[k]?) : Sat u w' (own b o' * F) := by
  obtain ⟨a1, a2, a3, r, ⟨r1, r2, rfl, p2, hok, rfl⟩, hw⟩ := h
  have hF : r2 b = none := by
    have := hok b
    simp only [if_true] at this
    rcases hr : r2 b with _ | ⟨q, x⟩
    · rfl
    · rw [hr] at this; cases q <;> exact this.elim
  refine ⟨h1.trans a1, h2.trans a2, h3.trans a3, _, ⟨fun k => if k = b then some (true, o') else none, r2, rfl, p2, fun k => ?_, rfl⟩, fun k q x hx => ?_⟩
  · by_cases e : k = b
    · subst e; simp [hF, okAt]
    · simp [e, okAt]
  · by_cases e : k = b
    · subst e; simp [joAt] at hx; rw [← hx.2]; exact hb
    · simp only [e, if_false, joAt] at hx
      have := hw k q x (by simp [e, joAt, hx])
      rw [hk k (Array.getElem?_eq_some_iff.1 this).1 e]
      exact this

/-- A new block. -/
theorem Sat.new {w' : World} (h : Sat u w F) (h1 : w'.os = w.os) (h2 : w'.tape = w.tape) (h3 : w'.output = w.output)
    (hb : w'.heap[w.heap.size]? = some o) (hk : ∀ k, k < w.heap.size → w'.heap[k]? = w.heap[k]?) : Sat u w' (own w.heap.size o * F) := by
  obtain ⟨a1, a2, a3, r, hr, hw⟩ := h
  have hn : r w.heap.size = none := by
    rcases hx : r w.heap.size with _ | ⟨q, x⟩
    · rfl
    · have := hw _ _ _ hx
      simp at this
  refine ⟨h1.trans a1, h2.trans a2, h3.trans a3, _, ⟨_, r, rfl, hr, fun k => ?_, rfl⟩, fun k q x hx => ?_⟩
  · by_cases e : k = w.heap.size
    · subst e; simp [hn, okAt]
    · simp [e, okAt]
  · by_cases e : k = w.heap.size
    · subst e; simp [joAt] at hx; rw [← hx.2]; exact hb
    · simp only [e, if_false, joAt] at hx
      have := hw k q x hx
      rw [hk k (Array.getElem?_eq_some_iff.1 this).1]
      exact this

theorem Sat.alloc (h : Sat u w F) (o : Obj) : Sat u (w.alloc o) (own w.heap.size o * F) :=
  h.new rfl rfl rfl (heap_alloc_new w o) fun _ hk => Below.heap_alloc _ _ _ hk

theorem heap_setCell {w : World} {c : Array Value} {t : TypeId} {fr : Nat × Nat} (h : w.heap[b]? = some (.cells c t fr)) (i : Nat) (v : Value) :
    (w.setCell ⟨b, i, none⟩ v).heap[b]? = some (.cells (c.setIfInBounds i v) t fr) := by
  simp only [World.setCell, Array.getElem?_modify, if_true, h, Option.map_some]
  rfl

theorem Sat.setCell {c : Array Value} {t : TypeId} {fr : Nat × Nat} (h : Sat u w (own b (.cells c t fr) * F)) (i : Nat) (v : Value) :
    Sat u (w.setCell ⟨b, i, none⟩ v) (own b (.cells (c.setIfInBounds i v) t fr) * F) :=
  h.upd rfl rfl rfl (heap_setCell h.get i v) fun _ _ e => Below.heap_setCell _ _ _ _ e

theorem Sat.cell {c : Array Value} {t : TypeId} {fr : Nat × Nat} (h : Sat u w (own b (.cells c t fr) * F)) (i : Nat) : w.cell? ⟨b, i, none⟩ = c[i]? := by
  simp [World.cell?, h.get]

theorem Sat.free {c : Array Value} {t : TypeId} (h : Sat u w (own b (.cells c t (0, 0)) * F)) (i : Nat) : w.frozen? ⟨b, i, none⟩ = false := by
  simp [World.frozen?, h.get]

/-- What is ours may be shared, for good. -/
theorem Sat.share (h : Sat u w (own b o * F)) : Sat u w (ro b o * F) := by
  obtain ⟨a1, a2, a3, r, ⟨r1, r2, rfl, p2, hok, rfl⟩, hw⟩ := h
  refine ⟨a1, a2, a3, _, ⟨_, r2, rfl, p2, fun k => ?_, rfl⟩, fun k q x hx => ?_⟩
  · by_cases e : k = b
    · subst e
      have := hok k
      simp only [if_true] at this ⊢
      rcases hr : r2 k with _ | ⟨q, x⟩
      · simp [okAt]
      · rw [hr] at this; cases q <;> exact this.elim
    · simp [e, okAt]
  · by_cases e : k = b
    · subst e
      simp [joAt] at hx
      exact hw k true x (by simp [joAt, hx.2])
    · simp only [e, if_false, joAt] at hx
      exact hw k q x (by simp [e, joAt, hx])

theorem ro_dup : ro b o * ro b o = ro b o := by
  funext r
  apply propext
  constructor
  · rintro ⟨r1, r2, rfl, rfl, _, rfl⟩
    funext k
    by_cases e : k = b <;> simp [e, joAt]
  · rintro rfl
    refine ⟨_, _, rfl, rfl, fun k => ?_, funext fun k => ?_⟩ <;> by_cases e : k = b <;> simp [e, okAt, joAt]

theorem Sat.dup (h : Sat u w (ro b o * F)) : Sat u w (ro b o * (ro b o * F)) := by
  rw [← star_assoc, ro_dup]; exact h

theorem sat_allro (w : World) : Sat w w (allro w) :=
  ⟨rfl, rfl, rfl, _, rfl, fun b q o h => by
    rcases hb : w.heap[b]? with _ | x
    · simp [hb] at h
    · simp [hb] at h; rw [h.2]⟩

theorem Sat.below {w0 : World} (h : Sat w0 w (allro w0)) : Below w0.heap.size w0 w := by
  obtain ⟨a1, a2, a3, r, rfl, hw⟩ := h
  have hb : ∀ k, k < w0.heap.size → w.heap[k]? = w0.heap[k]? := fun k hk => by
    have e : w0.heap[k]? = some w0.heap[k] := by simp
    rw [e]
    exact hw k false _ (by simp [e])
  refine ⟨a1, a2, a3, ?_, hb⟩
  rcases Nat.eq_zero_or_pos w0.heap.size with e | e
  · omega
  · have := hb (w0.heap.size - 1) (by omega)
    rw [Array.getElem?_eq_getElem (xs := w0.heap) (by omega)] at this
    have := (Array.getElem?_eq_some_iff.1 this).1
    omega

end

/-- Whatever bears F reads so. -/
def Reads (F : HProp) (p : World → Prop) : Prop := ∀ u w, Sat u w F → p w

theorem Reads.right {F G : HProp} {p : World → Prop} (h : Reads F p) : Reads (G * F) p := fun u w s => h u w s.right
theorem Reads.left {F G : HProp} {p : World → Prop} (h : Reads F p) : Reads (F * G) p := fun u w s => h u w s.left

#print axioms Sat.below
end Go.Proofs.YtlfmkiclaijokaaGreatDoor

namespace Go.Proofs.YtlfmkiclaijokaaGreatDoor
open Go.RowKit

/-- The slice v has m elements, which are the cells xs. -/
def RowAt (w : World) (v : Value) (m : Nat) (xs : List Value) : Prop :=
  (v = .slice none 0 0 ∧ m = 0 ∧ xs = []) ∨ ∃ a c, v = .slice (some a) m c ∧ m ≤ c ∧ c ≤ maxLen ∧ ∀ (j : Nat) (u : Value), xs[j]? = some u → w.cell? (a.add j) = some u

theorem RowAt.len {w : World} {v : Value} {m : Nat} {xs : List Value} (h : RowAt w v m xs) : ∃ a c, v = .slice a m c ∧ m ≤ c ∧ c ≤ maxLen := by
  rcases h with ⟨rfl, rfl, _⟩ | ⟨a, c, rfl, h1, h2, _⟩
  · exact ⟨none, 0, rfl, Nat.le_refl _, Nat.zero_le _⟩
  · exact ⟨some a, c, rfl, h1, h2⟩

theorem RowAt.cap {w : World} {a : Option Addr} {n c m : Nat} {xs : List Value} (h : RowAt w (.slice a n c) m xs) : n = m ∧ n ≤ c ∧ c ≤ maxLen := by
  rcases h with ⟨hv, rfl, _⟩ | ⟨a, c', hv, h1, h2, _⟩
  · cases hv; exact ⟨rfl, Nat.le_refl _, Nat.zero_le _⟩
  · cases hv; exact ⟨rfl, h1, h2⟩

/-- A slice of n elements (e: their type, size: the cells of each) over an array of its own, which holds xs ahead. -/
def ownRow (e : TypeId) (size : Nat) (v : Value) (n : Nat) (xs : List Value) : HProp := fun r =>
  (v = .slice none 0 0 ∧ n = 0 ∧ xs = [] ∧ r = fun _ => none) ∨
  ∃ g cap cur, v = .slice (some ⟨g, 0, none⟩) n cap ∧ n ≤ cap ∧ cap ≤ maxLen ∧ cur.size = cap * size ∧ cur.toList.take (n * size) = xs ∧ xs.length = n * size ∧ own g (.cells cur e (0, 0)) r

section
variable {u w : World} {F : HProp} {e : TypeId} {size : Nat} {v : Value} {n : Nat} {xs : List Value}

theorem Sat.row_iff : Sat u w (ownRow e size v n xs * F) ↔
    (v = .slice none 0 0 ∧ n = 0 ∧ xs = [] ∧ Sat u w F) ∨
    ∃ g cap cur, v = .slice (some ⟨g, 0, none⟩) n cap ∧ n ≤ cap ∧ cap ≤ maxLen ∧ cur.size = cap * size ∧ cur.toList.take (n * size) = xs ∧ xs.length = n * size ∧ Sat u w (own g (.cells cur e (0, 0)) * F) := by
  constructor
  · rintro ⟨h1, h2, h3, r, ⟨r1, r2, hr | ⟨g, cap, cur, hv, a1, a2, a3, a4, a5, ho⟩, p2, hok, rfl⟩, hw⟩
    · obtain ⟨rfl, rfl, rfl, rfl⟩ := hr
      exact .inl ⟨rfl, rfl, rfl, h1, h2, h3, r2, p2, fun b q o hb => hw b q o (by simpa [joAt] using hb)⟩
    · exact .inr ⟨g, cap, cur, hv, a1, a2, a3, a4, a5, h1, h2, h3, _, ⟨r1, r2, ho, p2, hok, rfl⟩, hw⟩
  · rintro (⟨rfl, rfl, rfl, h⟩ | ⟨g, cap, cur, hv, a1, a2, a3, a4, a5, h⟩)
    · exact h.mono fun r hr => ⟨fun _ => none, r, .inl ⟨rfl, rfl, rfl, rfl⟩, hr, fun _ => trivial, by simp [joAt]⟩
    · exact h.monoL fun r hr => .inr ⟨g, cap, cur, hv, a1, a2, a3, a4, a5, hr⟩

theorem Sat.row_nil (h : Sat u w F) : Sat u w (ownRow e size (.slice none 0 0) 0 [] * F) := Sat.row_iff.2 (.inl ⟨rfl, rfl, rfl, h⟩)

theorem Sat.row_mk {g cap : Nat} {cur : Array Value} (h : Sat u w (own g (.cells cur e (0, 0)) * F)) (a1 : n ≤ cap) (a2 : cap ≤ maxLen) (a3 : cur.size = cap * size)
    (a4 : cur.toList.take (n * size) = xs) : Sat u w (ownRow e size (.slice (some ⟨g, 0, none⟩) n cap) n xs * F) :=
  Sat.row_iff.2 (.inr ⟨g, cap, cur, rfl, a1, a2, a3, a4, by rw [← a4, List.length_take, Array.length_toList, a3]; exact Nat.min_eq_left (Nat.mul_le_mul_right _ a1), h⟩)

theorem Sat.row_len (h : Sat u w (ownRow e size v n xs * F)) : xs.length = n * size := by
  rcases Sat.row_iff.1 h with ⟨_, rfl, rfl, _⟩ | ⟨_, _, _, _, _, _, _, _, h, _⟩
  · simp
  · exact h

theorem addr_add (g j : Nat) : (⟨g, 0, none⟩ : Addr).add j = ⟨g, j, none⟩ := by unfold Addr.add; split <;> simp_all
theorem addr_add_at (g o j : Nat) : (⟨g, o, none⟩ : Addr).add j = ⟨g, o + j, none⟩ := by unfold Addr.add; split <;> simp_all

theorem Sat.row_at (h : Sat u w (ownRow e size v n xs * F)) : RowAt w v n xs := by
  rcases Sat.row_iff.1 h with ⟨rfl, rfl, rfl, _⟩ | ⟨g, cap, cur, rfl, a1, a2, a3, a4, _, h⟩
  · exact .inl ⟨rfl, rfl, rfl⟩
  · refine .inr ⟨⟨g, 0, none⟩, cap, rfl, a1, a2, fun j u hu => ?_⟩
    rw [addr_add, h.cell]
    rw [← a4, List.getElem?_take] at hu
    split at hu
    · simpa using hu
    · cases hu

theorem Reads.row : Reads (ownRow e size v n xs) (fun w => RowAt w v n xs) := fun u w h => by
  have h' : Sat u w (ownRow e size v n xs * fact True) := by
    rw [star_comm]; exact Sat.fact_iff.2 ⟨trivial, h⟩
  exact h'.row_at

/-- append, onto a row of our own. -/
theorem Sat.append {P : Program} (t ty : TypeId) (i : TypeInfo) (z : Value) {bytes : Nat} (ht : P.underlying t = some (.slice e)) (hi : P.info? e = some i) (hz : i.zero = some z)
    (hsize : i.size = size) (hby : i.bytes = bytes) (hzs : z.cells.size = size)
    (h : Sat u w (ownRow e size v n xs * F)) {x : Value} {m : Nat} {news : List Value} (hx : RowAt w x m news) (hl : news.length = m * size) (h1 : ∀ y ∈ news, y.oneCell' = true)
    (hbytes : (n + m) * bytes ≤ 140737488355328) (hb : 0 < bytes) :
    ∃ v' w', (Builtin.append_ #[t, t] ty #[v, x]).run P w = .ok v' w' ∧ Sat u w' (ownRow e size v' (n + m) (xs ++ news) * F) ∧ (v' = .slice none 0 0 ↔ v = .slice none 0 0 ∧ (m = 0)) := by
  subst hsize
  subst hby
  have hnm : n + m ≤ 140737488355328 := Nat.le_trans (Nat.le_mul_of_pos_right _ hb) hbytes
  have h63 : n + m ≤ maxLen := by simp only [maxLen]; omega
  have hxl := h.row_len
  have hlen : (xs ++ news).length = (n + m) * i.size := by rw [List.length_append, hxl, hl, Nat.add_mul]
  rcases hx with ⟨rfl, rfl, rfl⟩ | ⟨a, c, rfl, hmc, hcm', hnews⟩
  · have hown : w.ownsRow 0 e i.size v n xs := by
      rcases Sat.row_iff.1 h with ⟨rfl, rfl, rfl, _⟩ | ⟨g, cap, cur, rfl, a1, a2, a3, a4, a5, h⟩
      · exact World.ownsRow_nil _ _ _ _
      · exact ⟨a5, .inr ⟨g, cap, cur, rfl, Nat.zero_le _, h.get, a1, a2, a3, a4⟩⟩
    refine ⟨v, w, run_append_owned_none (P := P) (w := w) 0 t ty e i i.size ht hi v n xs hown, ?_, by simp⟩
    simpa using h
  rcases Sat.row_iff.1 h with ⟨rfl, rfl, rfl, h0⟩ | ⟨g, cap, cur, rfl, a1, a2, a3, a4, a5, h0⟩
  · by_cases hm : m = 0
    · subst hm
      have hn : news = [] := List.eq_nil_of_length_eq_zero (by simpa using hl)
      subst hn
      refine ⟨.slice none 0 0, w, ?_, by simpa using h, by simp⟩
      simp [Builtin.append_, run_underlying ht, sizeOf, typeInfo, hi, Builtin.lenOf, Builtin.firstCells, loadCells, loadCellsFrom]
    · have hr := run_append_nil (P := P) w t ty e i z ht hi hz a m c news hl hnews (by omega) (by omega) (by have hb := hbytes; simp only [Nat.zero_add] at hb; omega)
      have hge := grownCap_ge w m 0 e
      have hcm : grownCap w m 0 e ≤ maxLen := grownCap_le_maxLen w m 0 e (by omega)
      refine ⟨_, _, hr, ?_, by simp [hm]⟩
      simp only [Nat.zero_add, List.nil_append]
      refine Sat.row_mk (h0.drew.alloc _) hge hcm ?_ ?_
      · simp only [Array.size_append, List.size_toArray, size_zeroCells, hzs, hl, ← Nat.add_mul]
        congr 1
        omega
      · simp only [Array.toList_append]
        rw [← hl]
        exact List.take_left
  · by_cases hroom : n + m ≤ cap
    · have hfit : n * i.size + news.length ≤ cur.size := by rw [hl, a3, ← Nat.add_mul]; exact Nat.mul_le_mul_right _ hroom
      have hr := run_append_room (P := P) w t ty e i ht hi g n cap cur h0.get a m c news hl hnews h1 hroom hfit
      refine ⟨_, _, hr, Sat.row_mk (h0.upd rfl rfl rfl (setRow_heap w g cur _ e _ h0.get) fun k _ hk => setRow_other w g k _ hk) hroom a2 ?_ ?_, by simp⟩
      · simp only [List.size_toArray, List.length_append, List.length_take, List.length_drop, Array.length_toList]
        omega
      · rw [a4, ← hlen]
        exact List.take_left
    · have holds : ∀ (j : Nat) (u : Value), xs[j]? = some u → w.cell? ((⟨g, 0, none⟩ : Addr).add j) = some u := by
        rcases h.row_at with ⟨hv, _⟩ | ⟨a', c', hv, _, _, hc⟩
        · cases hv
        · cases hv; exact hc
      have hr := run_append_grow (P := P) w t ty e i z ht hi hz ⟨g, 0, none⟩ n cap xs a5 holds a m c news hl hnews (by omega) (by omega) (growslice_fits (by omega) hbytes)
      have hge := grownCap_ge w (n + m) cap e
      have hcm : grownCap w (n + m) cap e ≤ maxLen := grownCap_le_maxLen w (n + m) cap e h63
      refine ⟨_, _, hr, Sat.row_mk (Sat.alloc h0.right.drew _) hge hcm ?_ ?_, by simp⟩
      · simp only [Array.size_append, List.size_toArray, size_zeroCells, hzs, a5, hl, ← Nat.add_mul]
        congr 1
        omega
      · simp only [Array.toList_append]
        rw [← hlen]
        exact List.take_left

end

section
variable {P : Program} {u w : World} {F : HProp} {e : TypeId} {size bytes : Nat} {v x : Value} {n m : Nat} {xs news : List Value} {o : Oper} {a : Act} {ops : Array Oper} {rest : List Oper}
  {K : Act → World → Prop} {Q : Exit → Act → World → Prop}

theorem wp_append_sl (s y : Operand) (t : TypeId) (ho : o.op = .call { callee := .builtin .append, args := #[s, y], argTypes := #[t, t] })
    (i : TypeInfo) (z : Value) (ht : P.underlying t = some (.slice e)) (hi : P.info? e = some i) (hz : i.zero = some z)
    (hsize : i.size = size) (hby : i.bytes = bytes) (hzs : z.cells.size = size) (hb : 0 < bytes)
    (hs : a.eval s = v) (hy : a.eval y = x) (h : Sat u w (ownRow e size v n xs * F)) (hx : RowAt w x m news) (hl : news.length = m * size) (h1 : ∀ y ∈ news, y.oneCell' = true)
    (hbytes : (n + m) * bytes ≤ 140737488355328)
    (k : ∀ a' c' w', Sat u w' (ownRow e size (.slice a' (n + m) c') (n + m) (xs ++ news) * F) → (a' = none ↔ v = .slice none 0 0 ∧ m = 0) → K (a.put o.dst (.slice a' (n + m) c')) w') : o.wp P a w K Q := by
  obtain ⟨v', w', hr, h2, h3⟩ := h.append (P := P) t o.type i z ht hi hz hsize hby hzs hx hl h1 hbytes hb
  unfold Oper.wp execOp
  simp only [ho, resolve, invoke, builtin, Sem.run_bind, Sem.run_pure, Result.andThen_ok, List.map_toArray, List.map_cons, List.map_nil, hs, hy, hr]
  obtain ⟨a', c', hv, hc1, _⟩ := h2.row_at.len
  subst hv
  refine k a' c' w' h2 ?_
  rw [← h3]
  constructor
  · rintro rfl
    rcases h2.row_at with ⟨hv, _⟩ | ⟨_, _, hv, _⟩
    · exact hv
    · cases hv
  · intro hv
    exact (Value.slice.inj hv).1

theorem wpList_append_sl (hg : o.guard = none) (s y : Operand) (t : TypeId) (ho : o.op = .call { callee := .builtin .append, args := #[s, y], argTypes := #[t, t] })
    (i : TypeInfo) (z : Value) (ht : P.underlying t = some (.slice e)) (hi : P.info? e = some i) (hz : i.zero = some z)
    (hsize : i.size = size) (hby : i.bytes = bytes) (hzs : z.cells.size = size) (hb : 0 < bytes)
    (hs : a.eval s = v) (hy : a.eval y = x) (h : Sat u w (ownRow e size v n xs * F)) (hx : RowAt w x m news) (hl : news.length = m * size) (h1 : ∀ y ∈ news, y.oneCell' = true)
    (hbytes : (n + m) * bytes ≤ 140737488355328)
    (k : ∀ a' c' w', Sat u w' (ownRow e size (.slice a' (n + m) c') (n + m) (xs ++ news) * F) → (a' = none ↔ v = .slice none 0 0 ∧ m = 0) → wpList P ops Q rest (a.put o.dst (.slice a' (n + m) c')) w') : wpList P ops Q (o :: rest) a w :=
  wpList_plain hg fun _ hK => wp_append_sl s y t ho i z ht hi hz hsize hby hzs hb hs hy h hx hl h1 hbytes fun a' c' w' h2 h3 => hK _ _ (k a' c' w' h2 h3)
end

/-- A byte in a cell. -/
def B (c : UInt8) : Value := .int .u8 c.toNat

theorem B_one (xs : List UInt8) : ∀ y ∈ xs.map B, y.oneCell' = true := by
  intro y hy
  obtain ⟨c, _, rfl⟩ := List.mem_map.1 hy
  rfl

/-- The bytes of a slice. -/
def BytesAt (w : World) (v : Value) (xs : List UInt8) : Prop := RowAt w v xs.length (xs.map B)

#print axioms wpList_append_sl
end Go.Proofs.YtlfmkiclaijokaaGreatDoor

namespace Go.Proofs.YtlfmkiclaijokaaGreatDoor
open Go.RowKit

section
variable {α : Type} (f : α → List Value) (n : Nat) (hf : ∀ x, (f x).length = n)
include hf

theorem flat_len (L : List α) : (L.flatMap f).length = L.length * n := by
  induction L with
  | nil => simp
  | cons x L ih => rw [List.flatMap_cons, List.length_append, ih, hf, List.length_cons, Nat.succ_mul, Nat.add_comm]

theorem flat_get : ∀ (L : List α) (h j : Nat) (x : α), L[h]? = some x → j < n → (L.flatMap f)[h * n + j]? = (f x)[j]?
  | [], h, _, _, hx, _ => by simp at hx
  | y :: L, 0, j, x, hx, hj => by
    cases hx
    rw [List.flatMap_cons, Nat.zero_mul, Nat.zero_add, List.getElem?_append_left (by rw [hf]; exact hj)]
  | y :: L, h + 1, j, x, hx, hj => by
    have e : (h + 1) * n + j = (f y).length + (h * n + j) := by rw [hf, Nat.succ_mul]; omega
    rw [List.flatMap_cons, e, List.getElem?_append_right (by omega), Nat.add_sub_cancel_left]
    exact flat_get L h j x hx hj

theorem Sat.rowc_at {u w : World} {F : HProp} {e : TypeId} {a : Option Addr} {c m : Nat} {L : List α} {k : Nat} {x : α} (h : Sat u w (ownRow e n (.slice a m c) L.length (L.flatMap f) * F)) (hx : L[k]? = some x) :
    ∃ g, a = some ⟨g, 0, none⟩ ∧ ∀ w', Sat u w' (ownRow e n (.slice a m c) L.length (L.flatMap f) * F) → ∀ j, j < n → w'.cell? ⟨g, k * n + j, none⟩ = (f x)[j]? := by
  have hk : k < L.length := (List.getElem?_eq_some_iff.1 hx).1
  rcases Sat.row_iff.1 h with ⟨_, h0, _, _⟩ | ⟨g, cap, cur, hv, _⟩
  · omega
  · cases hv
    refine ⟨g, rfl, fun w' h' j hj => ?_⟩
    rcases Sat.row_iff.1 h' with ⟨hv, _⟩ | ⟨g', cap', cur', hv, a1, a2, a3, a4, a5, h2⟩
    · cases hv
    · cases hv
      have hkj : k * n + j < L.length * n := by
        have h1 : (k + 1) * n ≤ L.length * n := Nat.mul_le_mul_right n (by omega)
        rw [Nat.succ_mul] at h1
        omega
      rw [h2.cell, ← flat_get f n hf L k j x hx hj, ← a4, List.getElem?_take, if_pos hkj, Array.getElem?_toList]
end

/-- A row without its last elements. -/
theorem Sat.rowc_take {u w : World} {F : HProp} {e : TypeId} {n : Nat} {a : Option Addr} {c m k : Nat} {N : Nat} {xs : List Value} (h : Sat u w (ownRow e n (.slice a m c) N xs * F)) (hk : k ≤ N) :
    Sat u w (ownRow e n (.slice a k c) k (xs.take (k * n)) * F) := by
  rcases Sat.row_iff.1 h with ⟨hv, h1, h2, h3⟩ | ⟨g, cap, cur, hv, a1, a2, a3, a4, a5, h3⟩
  · subst h1 h2
    have hk0 : k = 0 := by omega
    subst hk0
    cases hv
    rw [List.take_nil]
    exact Sat.row_nil h3
  · cases hv
    refine Sat.row_mk h3 (by omega) a2 a3 ?_
    rw [← a4, List.take_take, Nat.min_eq_left (Nat.mul_le_mul_right _ hk)]
end Go.Proofs.YtlfmkiclaijokaaGreatDoor
