/- WalKnown: its calls in memory. -/
import Derived.Test.YtlfmkiclaijokaaGreatDoorMk38
import Derived.Test.YtlfmkiclaijokaaGreatDoorMk25
namespace Go.Proofs.YtlfmkiclaijokaaGreatDoor
open Go.RowKit
set_option linter.unusedVariables false

def cellsC (x : CallV) : List Value := [.int .u8 (x.kind : Nat), .string x.name, x.vb, .int .i64 x.n, x.vk]

theorem flat5 (k : Nat) (hk : k < 5) : ∀ (cs : List CallV) (j : Nat) (x : CallV), cs[j]? = some x → (cs.flatMap cellsC)[j * 5 + k]? = (cellsC x)[k]?
  | [], j, x, h => by simp at h
  | c :: cs, 0, x, h => by
    simp only [List.getElem?_cons_zero, Option.some.injEq] at h
    subst h
    rw [List.flatMap_cons, Nat.zero_mul, Nat.zero_add, List.getElem?_append_left hk]
  | c :: cs, j + 1, x, h => by
    rw [List.getElem?_cons_succ] at h
    have e : (j + 1) * 5 + k = (cellsC c).length + (j * 5 + k) := by show _ = 5 + (j * 5 + k); omega
    rw [List.flatMap_cons, e, List.getElem?_append_right (Nat.le_add_right _ _), Nat.add_sub_cancel_left]
    exact flat5 k hk cs j x h

theorem calls_mk {w : World} {g : Nat} {cs : List CallV} {t : TypeId} {fr : Nat × Nat} (hg : w.heap[g]? = some (.cells (cs.flatMap cellsC).toArray t fr)) (hl : cs.length ≤ 1000)
    (ok : ∀ x ∈ cs, OkCall x) (bs : ∀ x ∈ cs, BytesAt w x.vb x.b) (ks : ∀ x ∈ cs, IntsAt w x.vk x.keep) : CallsAt w (some ⟨g, 0, none⟩) cs.length cs.length cs := by
  refine ⟨rfl, Nat.le_refl _, by omega, ok, bs, ks, .inr ⟨g, 0, rfl, fun j x hx => ?_⟩⟩
  have key : ∀ k, k < 5 → w.cell? ⟨g, 0 + j * 5 + k, none⟩ = (cellsC x)[k]? := fun k hk => by
    rw [← flat5 k hk cs j x hx, Nat.zero_add]
    simp [World.cell?, hg]
  exact ⟨key 0 (by decide), key 1 (by decide), key 2 (by decide), key 3 (by decide), key 4 (by decide)⟩

/-- Blocks laid one behind the other. -/
def pushA (w : World) : List Obj → World
  | [] => w
  | o :: l => pushA (w.alloc o) l

theorem pushA_get : ∀ (l : List Obj) (w : World) (k : Nat), k < l.length → (pushA w l).heap[w.heap.size + k]? = l[k]?
  | [], w, k, h => by simp at h
  | o :: l, w, k, h => by
    have old : ∀ (l : List Obj) (w : World) (b : Nat), b < w.heap.size → (pushA w l).heap[b]? = w.heap[b]? := by
      intro l
      induction l with
      | nil => intro w b hb; rfl
      | cons o l ih =>
        intro w b hb
        show (pushA (w.alloc o) l).heap[b]? = _
        rw [ih _ _ (by rw [World.size_alloc]; omega)]
        show (w.heap.push o)[b]? = _
        rw [Array.getElem?_push_lt hb]
        simp [hb]
    match k, h with
    | 0, _ =>
      show (pushA (w.alloc o) l).heap[w.heap.size]? = some o
      rw [old _ _ _ (by rw [World.size_alloc]; omega)]
      show (w.heap.push o)[w.heap.size]? = some o
      simp
    | k + 1, h =>
      show (pushA (w.alloc o) l).heap[w.heap.size + (k + 1)]? = l[k]?
      rw [← pushA_get l (w.alloc o) k (by simpa using h), World.size_alloc]
      congr 1
      omega

theorem Sat.pushA {u : World} {F : HProp} : ∀ (l : List Obj) {w : World}, Sat u w F → Sat u (pushA w l) F
  | [], w, h => h
  | o :: l, w, h => Sat.pushA l (h.alloc o).right

theorem heap1 {w : World} {g : Nat} {x : UInt8} {t : TypeId} {fr : Nat × Nat} (h : w.heap[g]? = some (.cells #[.int .u8 x.toNat] t fr)) : BytesAt w (.slice (some ⟨g, 0, none⟩) 1 1) [x] := by
  refine .inr ⟨⟨g, 0, none⟩, 1, rfl, Nat.le_refl _, by decide, fun j v hj => ?_⟩
  rw [addr_add]
  simp only [World.cell?, h]
  match j, hj with
  | 0, hj => exact hj
  | j + 1, hj => simp at hj

theorem heapInts {w : World} {g : Nat} {xs : List Int} {t : TypeId} {fr : Nat × Nat} (h : w.heap[g]? = some (.cells (xs.map fun x => Value.int .i64 x).toArray t fr)) (hl : xs.length ≤ 1000) : IntsAt w (.slice (some ⟨g, 0, none⟩) xs.length xs.length) xs := by
  refine .inr ⟨⟨g, 0, none⟩, xs.length, rfl, Nat.le_refl _, (by show _ ≤ 9223372036854775807; omega), fun j v hj => ?_⟩
  rw [addr_add]
  simp only [World.cell?, h, List.getElem?_toArray]
  exact hj

/-- The calls that are played. -/
def callsK (n : Nat) (a7 : Option Addr) (c7 : Nat) (a8 : Option Addr) (c8 : Nat) : List CallV :=
  [⟨10, ⟨#[108, 111, 103, 46, 48]⟩, frameB 82 1 [97] ++ frameB 82 2 [98], .slice a7 36 c7, 0, [], .slice none 0 0⟩,
   ⟨9, ⟨#[]⟩, [], .slice none 0 0, 0, [], .slice none 0 0⟩,
   ⟨10, ⟨#[108, 111, 103, 46, 48]⟩, frameB 82 4 [99], .slice a8 18 c8, 0, [], .slice none 0 0⟩,
   ⟨10, ⟨#[108, 111, 103, 46, 55]⟩, [], .slice none 0 0, 0, [], .slice none 0 0⟩,
   ⟨10, ⟨#[99, 107, 46, 116, 109, 112]⟩, [], .slice none 0 0, 0, [], .slice none 0 0⟩,
   ⟨10, ⟨#[108, 111, 103, 46, 48, 48]⟩, [], .slice none 0 0, 0, [], .slice none 0 0⟩,
   ⟨11, ⟨#[]⟩, [], .slice none 0 0, 1, [], .slice none 0 0⟩,
   ⟨11, ⟨#[]⟩, [], .slice none 0 0, 2, [9, 9], .slice (some ⟨n, 0, none⟩) 2 2⟩,
   ⟨8, ⟨#[]⟩, [], .slice none 0 0, 0, [], .slice none 0 0⟩,
   ⟨0, ⟨#[]⟩, [100], .slice (some ⟨n + 1, 0, none⟩) 1 1, 0, [], .slice none 0 0⟩,
   ⟨6, ⟨#[]⟩, [115], .slice (some ⟨n + 1 + 1, 0, none⟩) 1 1, 0, [], .slice none 0 0⟩,
   ⟨4, ⟨#[]⟩, [], .slice none 0 0, 0, [], .slice none 0 0⟩,
   ⟨4, ⟨#[]⟩, [], .slice none 0 0, 0, [], .slice none 0 0⟩,
   ⟨10, ⟨#[99, 107, 46, 116, 109, 112]⟩, [113], .slice (some ⟨n + 1 + 1 + 1, 0, none⟩) 1 1, 0, [], .slice none 0 0⟩,
   ⟨6, ⟨#[]⟩, [115], .slice (some ⟨n + 1 + 1 + 1 + 1, 0, none⟩) 1 1, 0, [], .slice none 0 0⟩,
   ⟨0, ⟨#[]⟩, [101], .slice (some ⟨n + 1 + 1 + 1 + 1 + 1, 0, none⟩) 1 1, 0, [], .slice none 0 0⟩,
   ⟨7, ⟨#[]⟩, [], .slice none 0 0, 3, [], .slice none 0 0⟩,
   ⟨4, ⟨#[]⟩, [], .slice none 0 0, 0, [], .slice none 0 0⟩,
   ⟨6, ⟨#[]⟩, [116], .slice (some ⟨n + 1 + 1 + 1 + 1 + 1 + 1, 0, none⟩) 1 1, 0, [], .slice none 0 0⟩,
   ⟨0, ⟨#[]⟩, [], .slice none 0 0, 0, [], .slice none 0 0⟩,
   ⟨8, ⟨#[]⟩, [], .slice none 0 0, 0, [3, 99], .slice (some ⟨n + 1 + 1 + 1 + 1 + 1 + 1 + 1, 0, none⟩) 2 2⟩,
   ⟨0, ⟨#[]⟩, [102], .slice (some ⟨n + 1 + 1 + 1 + 1 + 1 + 1 + 1 + 1, 0, none⟩) 1 1, 0, [], .slice none 0 0⟩,
   ⟨4, ⟨#[]⟩, [], .slice none 0 0, 0, [], .slice none 0 0⟩,
   ⟨7, ⟨#[]⟩, [], .slice none 0 0, 4, [], .slice none 0 0⟩,
   ⟨6, ⟨#[]⟩, [117], .slice (some ⟨n + 1 + 1 + 1 + 1 + 1 + 1 + 1 + 1 + 1, 0, none⟩) 1 1, 0, [], .slice none 0 0⟩,
   ⟨8, ⟨#[]⟩, [], .slice none 0 0, 0, [], .slice none 0 0⟩,
   ⟨10, ⟨#[99, 107]⟩, [1], .slice (some ⟨n + 1 + 1 + 1 + 1 + 1 + 1 + 1 + 1 + 1 + 1, 0, none⟩) 1 1, 0, [], .slice none 0 0⟩,
   ⟨9, ⟨#[]⟩, [], .slice none 0 0, 0, [], .slice none 0 0⟩]

def objsK (n : Nat) (a7 : Option Addr) (c7 : Nat) (a8 : Option Addr) (c8 : Nat) : List Obj :=
  [.cells #[.int .i64 9, .int .i64 9] 3,
   .cells #[.int .u8 100] 5 (1, 2),
   .cells #[.int .u8 115] 5 (1, 2),
   .cells #[.int .u8 113] 5 (1, 2),
   .cells #[.int .u8 115] 5 (1, 2),
   .cells #[.int .u8 101] 5 (1, 2),
   .cells #[.int .u8 116] 5 (1, 2),
   .cells #[.int .i64 3, .int .i64 99] 3,
   .cells #[.int .u8 102] 5 (1, 2),
   .cells #[.int .u8 117] 5 (1, 2),
   .cells #[.int .u8 1] 5,
   .cells ((callsK n a7 c7 a8 c8).flatMap cellsC).toArray 36]

/-- The calls that are kept to. -/
def callsX (n : Nat) : List CallV :=
  [⟨0, ⟨#[]⟩, [97], .slice (some ⟨n, 0, none⟩) 1 1, 0, [], .slice none 0 0⟩,
   ⟨2, ⟨#[]⟩, [], .slice none 0 0, 0, [], .slice none 0 0⟩,
   ⟨3, ⟨#[]⟩, [115], .slice (some ⟨n + 1, 0, none⟩) 1 1, 0, [], .slice none 0 0⟩,
   ⟨1, ⟨#[]⟩, [98], .slice (some ⟨n + 1 + 1, 0, none⟩) 1 1, 0, [0, 30], .slice (some ⟨n + 1 + 1 + 1, 0, none⟩) 2 2⟩,
   ⟨35, ⟨#[]⟩, [116], .slice (some ⟨n + 1 + 1 + 1 + 1, 0, none⟩) 1 1, 0, [], .slice none 0 0⟩,
   ⟨0, ⟨#[]⟩, [99], .slice (some ⟨n + 1 + 1 + 1 + 1 + 1, 0, none⟩) 1 1, 0, [], .slice none 0 0⟩]

def objsX (n : Nat) : List Obj :=
  [.cells #[.int .u8 97] 5 (1, 2),
   .cells #[.int .u8 115] 5 (1, 2),
   .cells #[.int .u8 98] 5 (1, 2),
   .cells #[.int .i64 0, .int .i64 30] 3,
   .cells #[.int .u8 116] 5 (1, 2),
   .cells #[.int .u8 99] 5 (1, 2),
   .cells ((callsX n).flatMap cellsC).toArray 36,
   .cells #[.int .i64 (-1), .int .i64 3, .int .i64 2, .int .i64 0, .int .i64 4, .int .i64 1, .int .i64 1] 3]

def intsX : List Int := [-1, 3, 2, 0, 4, 1, 1]

theorem okCall {x : CallV} (h : (decide (x.kind < 256) && decide (x.name.size ≤ 1000) && decide (-1000 ≤ x.n) && decide (x.n ≤ 1000) && x.keep.all fun k => decide (-1000 ≤ k) && decide (k ≤ 1000)) = true) : OkCall x := by
  simp only [Bool.and_eq_true, decide_eq_true_eq, List.all_eq_true] at h
  obtain ⟨⟨⟨⟨h1, h2⟩, h3⟩, h4⟩, h5⟩ := h
  exact ⟨h1, by omega, by omega, by omega, fun k hk => by have := h5 k hk; omega⟩

theorem callsK_at {w : World} {n : Nat} {a7 : Option Addr} {c7 : Nat} {a8 : Option Addr} {c8 : Nat} (hh : ∀ k, k < 12 → w.heap[n + k]? = (objsK n a7 c7 a8 c8)[k]?)
    (h7 : BytesAt w (.slice a7 36 c7) (frameB 82 1 [97] ++ frameB 82 2 [98])) (h8 : BytesAt w (.slice a8 18 c8) (frameB 82 4 [99])) :
    CallsAt w (some ⟨n + 11, 0, none⟩) 28 28 (callsK n a7 c7 a8 c8) := by
  refine calls_mk (cs := callsK n a7 c7 a8 c8) (hh 11 (by decide)) (by show 28 ≤ 1000; decide) ?_ ?_ ?_
  · unfold callsK
    simp only [List.forall_mem_cons]
    repeat' apply And.intro
    all_goals first | exact okCall (by kernel_rfl) | exact fun x hx => by cases hx
  · unfold callsK
    simp only [List.forall_mem_cons]
    repeat' apply And.intro
    all_goals first
      | exact .inl ⟨rfl, rfl, rfl⟩
      | exact h7
      | exact h8
      | exact heap1 (hh 1 (by decide))
      | exact heap1 (hh 2 (by decide))
      | exact heap1 (hh 3 (by decide))
      | exact heap1 (hh 4 (by decide))
      | exact heap1 (hh 5 (by decide))
      | exact heap1 (hh 6 (by decide))
      | exact heap1 (hh 8 (by decide))
      | exact heap1 (hh 9 (by decide))
      | exact heap1 (hh 10 (by decide))
      | exact fun x hx => by cases hx
  · unfold callsK
    simp only [List.forall_mem_cons]
    repeat' apply And.intro
    all_goals first
      | exact .inl ⟨rfl, rfl, rfl⟩
      | exact heapInts (xs := [9, 9]) (hh 0 (by decide)) (by decide)
      | exact heapInts (xs := [3, 99]) (hh 7 (by decide)) (by decide)
      | exact fun x hx => by cases hx

theorem callsX_at {w : World} {n : Nat} (hh : ∀ k, k < 8 → w.heap[n + k]? = (objsX n)[k]?) : CallsAt w (some ⟨n + 6, 0, none⟩) 6 6 (callsX n) := by
  refine calls_mk (cs := callsX n) (hh 6 (by decide)) (by show 6 ≤ 1000; decide) ?_ ?_ ?_
  · unfold callsX
    simp only [List.forall_mem_cons]
    repeat' apply And.intro
    all_goals first | exact okCall (by kernel_rfl) | exact fun x hx => by cases hx
  · unfold callsX
    simp only [List.forall_mem_cons]
    repeat' apply And.intro
    all_goals first
      | exact .inl ⟨rfl, rfl, rfl⟩
      | exact heap1 (hh 0 (by decide))
      | exact heap1 (hh 1 (by decide))
      | exact heap1 (hh 2 (by decide))
      | exact heap1 (hh 4 (by decide))
      | exact heap1 (hh 5 (by decide))
      | exact fun x hx => by cases hx
  · unfold callsX
    simp only [List.forall_mem_cons]
    repeat' apply And.intro
    all_goals first
      | exact .inl ⟨rfl, rfl, rfl⟩
      | exact heapInts (xs := [0, 30]) (hh 3 (by decide)) (by decide)
      | exact fun x hx => by cases hx

theorem intsX_at {w : World} {n : Nat} (hh : ∀ k, k < 8 → w.heap[n + k]? = (objsX n)[k]?) : IntsAt w (.slice (some ⟨n + 7, 0, none⟩) intsX.length 7) intsX := heapInts (xs := intsX) (hh 7 (by decide)) (by decide)

theorem plays1000 (n : Nat) (a7 : Option Addr) (c7 : Nat) (a8 : Option Addr) (c8 : Nat) : okO (newD 1000) = true ∧ playsOk (callsK n a7 c7 a8 c8) (openS (newD 1000)) = true := ⟨by kernel_rfl, by kernel_rfl⟩
theorem plays90 (n : Nat) (a7 : Option Addr) (c7 : Nat) (a8 : Option Addr) (c8 : Nat) : okO (newD 90) = true ∧ playsOk (callsK n a7 c7 a8 c8) (openS (newD 90)) = true := ⟨by kernel_rfl, by kernel_rfl⟩
theorem plays0 (n : Nat) (a7 : Option Addr) (c7 : Nat) (a8 : Option Addr) (c8 : Nat) : okO (newD 0) = true ∧ playsOk (callsK n a7 c7 a8 c8) (openS (newD 0)) = true := ⟨by kernel_rfl, by kernel_rfl⟩
end Go.Proofs.YtlfmkiclaijokaaGreatDoor
