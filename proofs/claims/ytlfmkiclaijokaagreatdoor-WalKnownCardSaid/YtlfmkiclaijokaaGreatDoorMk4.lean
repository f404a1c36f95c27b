/- A region that draws its order, walked once: what may be taken at once is taken first (it yields the same in every world that the condition S lets by), what changes the world comes alone; S grows behind each of these. After the guide's own wpAnyH. No program in sight. A region of which, behind what may be taken at once, either of two operations may come first. A region of which, again and again, either of two operations may come first: a tree of orders. A region that draws its order and ends in ONE operation that waits for every other (a store, mostly): behind that one the condition is asked no more. No program in sight. A region that draws its order and has ONE operation that waits for all that was taken ahead of it (a store, mostly); it and what follows come one by one, and the condition is asked no more. No program in sight. As RegionMid, with two conditions: S, which holds till m is done, and T, which holds throughout; what is taken at once is taken under the one (1) or under the other (2); 0: what changes the world. No program in sight. -/
import Derived.OrdersHeld
import Derived.WalkKit
import Derived.KernelRfl
namespace Go.Proofs.YtlfmkiclaijokaaGreatDoor

section
variable {P : Program} {ops : Array Oper} {Q : Exit → Act → World → Prop}

def okSeq (ops : Array Oper) : List (Nat × Bool) → Array Bool → Bool
  | [], l => (Region.ready .any ops l).isEmpty
  | (i, true) :: rest, l => (ops[i]?).isSome && Region.free .any ops l i && (Region.ready .any ops l).contains i && okSeq ops rest (l.setIfInBounds i true)
  | (i, false) :: rest, l => (ops[i]?).isSome && (Region.ready .any ops l == [i]) && okSeq ops rest (l.setIfInBounds i true)

/-- The operations in the order in which they are walked, written out. -/
def pickOps (ops : Array Oper) : List (Nat × Bool) → List (Oper × Bool)
  | [] => []
  | (i, b) :: rest => (ops.getD i default, b) :: pickOps ops rest

def wpSeq (P : Program) (ops : Array Oper) (Q : Exit → Act → World → Prop) : List (Oper × Bool) → (World → Prop) → Act → World → Prop
  | [], _, a, w => Q .normal a w
  | (o, true) :: rest, S, a, w => ∃ v, YieldsIf P ops S o v a ∧ S w ∧ wpSeq P ops Q rest S (a.put o.dst v) w
  | (o, false) :: rest, S, a, w => if Region.wanted o (yielded ops a.tmps) then o.wp P a w (fun a' w' => ∃ S' : World → Prop, (∀ x, S' x → S x) ∧ S' w' ∧ wpSeq P ops Q rest S' a' w') Q
      else S w ∧ wpSeq P ops Q rest S (a.put o.dst undef) w

theorem wpAnyH_mono {md : Region.Mode} {S S' : World → Prop} (hs : ∀ x, S' x → S x) : ∀ (fuel : Nat) (l : Array Bool) (a : Act) (w : World), wpAnyH P md ops Q S' fuel l a w → wpAnyH P md ops Q S fuel l a w
  | 0, _, _, _, h => h
  | fuel + 1, _, _, _, h => ⟨h.1, fun i hi => wpOp_mono (fun a' w' h' => ⟨hs _ h'.1, wpAnyH_mono hs fuel _ a' w' h'.2⟩) (h.2 i hi)⟩

theorem wpSeq_sound (hsel : Region.noSelect ops = true) (hQ : ∀ c (a : Act) d v w, Q (.panic c) (a.put d v) w → Q (.panic c) a w) :
    ∀ (ord : List (Nat × Bool)) (l : Array Bool) (S : World → Prop) (a : Act) (w : World), okSeq ops ord l = true → wpSeq P ops Q (pickOps ops ord) S a w → wpAnyH P .any ops Q S ord.length l a w
  | [], l, S, a, w, hok, h => wpAnyH_done (by simpa [okSeq] using hok) h _
  | (i, true) :: rest, l, S, a, w, hok, h => by
    simp only [okSeq, Bool.and_eq_true] at hok
    obtain ⟨⟨⟨h1, h2⟩, h3⟩, h4⟩ := hok
    obtain ⟨v, hy, hS, h⟩ := h
    obtain ⟨o, ho⟩ := Option.isSome_iff_exists.1 h1
    have hg : ops.getD i default = o := by simp [Array.getD_eq_getD_getElem?, ho]
    rw [hg] at hy h
    exact wpAnyH_take ho hsel h2 h3 (fun c a w => hQ c a _ _ w) hy hS (wpSeq_sound hsel hQ rest _ S _ w h4 h)
  | (i, false) :: rest, l, S, a, w, hok, h => by
    simp only [okSeq, Bool.and_eq_true] at hok
    obtain ⟨⟨h1, h2⟩, h4⟩ := hok
    have h2' : Region.ready .any ops l = [i] := by simpa using h2
    obtain ⟨o, ho⟩ := Option.isSome_iff_exists.1 h1
    have hg : ops.getD i default = o := by simp [Array.getD_eq_getD_getElem?, ho]
    refine wpAnyH_all h2' (by simp) fun j hj => ?_
    obtain rfl : j = i := by simpa using hj
    simp only [pickOps, wpSeq, hg] at h
    unfold wpOp
    rw [ho]
    dsimp only
    split
    · next hw =>
      rw [if_pos hw] at h
      refine .inl (Oper.wp_mono ?_ h)
      rintro a' w' ⟨S', hS, hw, h'⟩
      exact ⟨hS _ hw, wpAnyH_mono hS _ _ _ _ (wpSeq_sound hsel hQ rest _ S' a' w' h4 h')⟩
    · next hw =>
      rw [if_neg hw] at h
      exact ⟨h.1, wpSeq_sound hsel hQ rest _ S _ w h4 h.2⟩

def okRegion (ops : Array Oper) (ord : List (Nat × Bool)) : Bool := okSeq ops ord (Array.replicate ops.size false) && Region.noSelect ops && ord.length == ops.size

/-- THE BEGINNING. -/
theorem wp_region_seq {id : Nat} {a : Act} {w : World} (ord : List (Nat × Bool)) (S : World → Prop) (hm : P.follows .mixedOrders = true) (hok : okRegion ops ord = true)
    (hQ : ∀ c (a : Act) (i : Nat) v w, Q (.panic c) (a.put (some i) v) w → Q (.panic c) a w) (h : wpSeq P ops Q (pickOps ops ord) S a w.drew) : (Code.region id ops true).wp P Q a w := by
  simp only [okRegion, Bool.and_eq_true, beq_iff_eq] at hok
  obtain ⟨⟨h1, h2⟩, h3⟩ := hok
  refine wp_region_held (S := S) hm ?_
  have hQ' : ∀ c (a : Act) d v w, Q (.panic c) (a.put d v) w → Q (.panic c) a w := fun c a d v w h => by
    cases d with
    | none => exact h
    | some i => exact hQ c a i v w h
  have := wpSeq_sound h2 hQ' ord _ S a _ h1 h
  rw [h3] at this
  exact this

variable {rest : List (Oper × Bool)} {S : World → Prop} {a : Act} {w : World} {o : Oper}

/-- What may be taken at once. -/
theorem wpSeq_run (hw : Region.wanted o (yielded ops a.tmps) = true) (hS : S w)
    (h : ∀ K : Act → Prop, (∀ a, wpSeq P ops Q rest S a w → K a) → ∃ v, (∀ w', S w' → (execOp a.eval o).run P w' = .ok (.value v) w') ∧ K (a.put o.dst v)) : wpSeq P ops Q ((o, true) :: rest) S a w := by
  obtain ⟨v, hv, hk⟩ := h _ fun _ h => h
  exact ⟨v, .inl ⟨hw, hv⟩, hS, hk⟩

/-- What its guard passes over. -/
theorem wpSeq_skip (hw : Region.wanted o (yielded ops a.tmps) = false) (hS : S w)
    (h : ∀ K : Act → Prop, (∀ a, wpSeq P ops Q rest S a w → K a) → K (a.put o.dst undef)) : wpSeq P ops Q ((o, true) :: rest) S a w :=
  ⟨undef, .inr ⟨hw, rfl⟩, hS, h _ fun _ h => h⟩

/-- What changes the world. -/
theorem wpSeq_act (hw : Region.wanted o (yielded ops a.tmps) = true)
    (h : ∀ K : Act → World → Prop, (∀ a' w' (S' : World → Prop), (∀ x, S' x → S x) → S' w' → wpSeq P ops Q rest S' a' w' → K a' w') → o.wp P a w K Q) : wpSeq P ops Q ((o, false) :: rest) S a w := by
  unfold wpSeq
  rw [if_pos hw]
  exact h _ fun a' w' S' h1 h2 h3 => ⟨S', h1, h2, h3⟩

theorem wpSeq_pass (hw : Region.wanted o (yielded ops a.tmps) = false) (hS : S w)
    (h : ∀ K : Act → Prop, (∀ a, wpSeq P ops Q rest S a w → K a) → K (a.put o.dst undef)) : wpSeq P ops Q ((o, false) :: rest) S a w := by
  unfold wpSeq
  rw [if_neg (by rw [hw]; simp)]
  exact ⟨hS, h _ fun _ h => h⟩

theorem wpSeq_end (h : Q .normal a w) : wpSeq P ops Q [] S a w := h

theorem getD_of {l : List Oper} {i : Nat} {o : Oper} (h : l[i]? = some o) : l.toArray.getD i default = o := by simp [Array.getD_eq_getD_getElem?, h]
end
#print axioms wp_region_seq
end Go.Proofs.YtlfmkiclaijokaaGreatDoor

namespace Go.Proofs.YtlfmkiclaijokaaGreatDoor

section
variable {P : Program} {ops : Array Oper} {Q : Exit → Act → World → Prop}

theorem act_one (hsel : Region.noSelect ops = true) (hQ : ∀ c (a : Act) d v w, Q (.panic c) (a.put d v) w → Q (.panic c) a w) {i : Nat} {rest : List (Nat × Bool)} {l : Array Bool} {S : World → Prop} {a : Act} {w : World}
    (h1 : (ops[i]?).isSome = true) (h4 : okSeq ops rest (l.setIfInBounds i true) = true) (h : wpSeq P ops Q (pickOps ops ((i, false) :: rest)) S a w) :
    wpOp P ops Q i (fun a' w' => S w' ∧ wpAnyH P .any ops Q S rest.length (l.setIfInBounds i true) a' w') a w := by
  obtain ⟨o, ho⟩ := Option.isSome_iff_exists.1 h1
  have hg : ops.getD i default = o := by simp [Array.getD_eq_getD_getElem?, ho]
  simp only [pickOps, wpSeq, hg] at h
  unfold wpOp
  rw [ho]
  dsimp only
  split
  · next hw =>
    rw [if_pos hw] at h
    refine .inl (Oper.wp_mono ?_ h)
    rintro a' w' ⟨S', hS, hw, h'⟩
    exact ⟨hS _ hw, wpAnyH_mono hS _ _ _ _ (wpSeq_sound hsel hQ rest _ S' a' w' h4 h')⟩
  · next hw =>
    rw [if_neg hw] at h
    exact ⟨h.1, wpSeq_sound hsel hQ rest _ S _ w h4 h.2⟩

/-- What is listed behind the takes, and that they may be taken. -/
def okTakes (ops : Array Oper) : List Nat → Array Bool → Bool
  | [], _ => true
  | i :: rest, l => (ops[i]?).isSome && Region.free .any ops l i && (Region.ready .any ops l).contains i && okTakes ops rest (l.setIfInBounds i true)

def behindTakes : List Nat → Array Bool → Array Bool
  | [], l => l
  | i :: rest, l => behindTakes rest (l.setIfInBounds i true)

theorem takes_sound (hsel : Region.noSelect ops = true) (hQ : ∀ c (a : Act) d v w, Q (.panic c) (a.put d v) w → Q (.panic c) a w) {T : Act → World → Prop} {S : World → Prop} {fuel : Nat} :
    ∀ (ord : List Nat) (l : Array Bool) (a : Act) (w : World), okTakes ops ord l = true → (∀ a w, T a w → wpAnyH P .any ops Q S fuel (behindTakes ord l) a w) →
      wpSeq P ops (fun _ a w => T a w) (pickOps ops (ord.map fun i => (i, true))) S a w → wpAnyH P .any ops Q S (fuel + ord.length) l a w
  | [], _, a, w, _, hT, h => hT a w h
  | i :: rest, l, a, w, hok, hT, h => by
    simp only [okTakes, Bool.and_eq_true] at hok
    obtain ⟨⟨⟨h1, h2⟩, h3⟩, h4⟩ := hok
    obtain ⟨v, hy, hS, h⟩ := h
    obtain ⟨o, ho⟩ := Option.isSome_iff_exists.1 h1
    have hg : ops.getD i default = o := by simp [Array.getD_eq_getD_getElem?, ho]
    rw [hg] at hy h
    exact wpAnyH_take ho hsel h2 h3 (fun c a w => hQ c a _ _ w) hy hS (takes_sound hsel hQ rest _ _ w h4 hT h)

def okFork (ops : Array Oper) (ord : List Nat) (i j : Nat) (oi oj : List (Nat × Bool)) : Bool :=
  let l := Array.replicate ops.size false
  let m := behindTakes ord l
  okTakes ops ord l && Region.noSelect ops && (Region.ready .any ops m == [i, j]) && (ops[i]?).isSome && (ops[j]?).isSome && okSeq ops oi (m.setIfInBounds i true) && okSeq ops oj (m.setIfInBounds j true) &&
    (oi.length == oj.length) && (oi.length + 1 + ord.length == ops.size)

theorem wp_region_fork {id : Nat} {a : Act} {w : World} (ord : List Nat) (i j : Nat) (oi oj : List (Nat × Bool)) (S : World → Prop) (hm : P.follows .mixedOrders = true) (hok : okFork ops ord i j oi oj = true)
    (hQ : ∀ c (a : Act) (i : Nat) v w, Q (.panic c) (a.put (some i) v) w → Q (.panic c) a w)
    (h : wpSeq P ops (fun _ a w => wpSeq P ops Q (pickOps ops ((i, false) :: oi)) S a w ∧ wpSeq P ops Q (pickOps ops ((j, false) :: oj)) S a w) (pickOps ops (ord.map fun i => (i, true))) S a w.drew) :
    (Code.region id ops true).wp P Q a w := by
  simp only [okFork, Bool.and_eq_true, beq_iff_eq] at hok
  obtain ⟨⟨⟨⟨⟨⟨⟨⟨h1, h2⟩, h3⟩, h4⟩, h5⟩, h6⟩, h7⟩, h8⟩, h9⟩ := hok
  refine wp_region_held (S := S) hm ?_
  have hQ' : ∀ c (a : Act) d v w, Q (.panic c) (a.put d v) w → Q (.panic c) a w := fun c a d v w h => by
    cases d with
    | none => exact h
    | some i => exact hQ c a i v w h
  have := takes_sound (fuel := oi.length + 1) h2 hQ' ord _ a _ h1 (fun a w hT => ?_) h
  · rw [h9] at this
    exact this
  · refine wpAnyH_all h3 (by simp) fun k hk => ?_
    rcases List.mem_cons.1 hk with rfl | hk
    · exact act_one h2 hQ' h4 h6 hT.1
    · obtain rfl : k = j := by simpa using hk
      rw [h8]
      exact act_one h2 hQ' h5 h7 hT.2
end
end Go.Proofs.YtlfmkiclaijokaaGreatDoor

namespace Go.Proofs.YtlfmkiclaijokaaGreatDoor

inductive OTree where
  | fin (ord : List (Nat × Bool))
  | fork (ord : List Nat) (i j : Nat) (ti tj : OTree)

section
variable {P : Program} {ops : Array Oper} {Q : Exit → Act → World → Prop}

def OTree.size : OTree → Nat
  | fin ord => ord.length
  | fork ord _ _ ti _ => ti.size + 1 + ord.length

def okTree (ops : Array Oper) : OTree → Array Bool → Bool
  | .fin ord, l => okSeq ops ord l
  | .fork ord i j ti tj, l => okTakes ops ord l && (Region.ready .any ops (behindTakes ord l) == [i, j]) && (ops[i]?).isSome && (ops[j]?).isSome &&
      okTree ops ti ((behindTakes ord l).setIfInBounds i true) && okTree ops tj ((behindTakes ord l).setIfInBounds j true) && (ti.size == tj.size)

/-- One operation that changes the world, and what follows. -/
def wpAct (P : Program) (ops : Array Oper) (Q : Exit → Act → World → Prop) (o : Oper) (T : (World → Prop) → Act → World → Prop) (S : World → Prop) (a : Act) (w : World) : Prop :=
  if Region.wanted o (yielded ops a.tmps) then o.wp P a w (fun a' w' => ∃ S' : World → Prop, (∀ x, S' x → S x) ∧ S' w' ∧ T S' a' w') Q else S w ∧ T S (a.put o.dst undef) w

def wpTree (P : Program) (ops : Array Oper) (Q : Exit → Act → World → Prop) : OTree → (World → Prop) → Act → World → Prop
  | .fin ord, S, a, w => wpSeq P ops Q (pickOps ops ord) S a w
  | .fork ord i j ti tj, S, a, w => wpSeq P ops (fun _ a w => wpAct P ops Q (ops.getD i default) (wpTree P ops Q ti) S a w ∧ wpAct P ops Q (ops.getD j default) (wpTree P ops Q tj) S a w) (pickOps ops (ord.map fun i => (i, true))) S a w

theorem wpAct_run {o : Oper} {T : (World → Prop) → Act → World → Prop} {S : World → Prop} {a : Act} {w : World} (hw : Region.wanted o (yielded ops a.tmps) = true)
    (h : ∀ K : Act → World → Prop, (∀ a' w' (S' : World → Prop), (∀ x, S' x → S x) → S' w' → T S' a' w' → K a' w') → o.wp P a w K Q) : wpAct P ops Q o T S a w := by
  unfold wpAct
  rw [if_pos hw]
  exact h _ fun a' w' S' h1 h2 h3 => ⟨S', h1, h2, h3⟩

theorem tree_one {i : Nat} {t : OTree} {l : Array Bool} {S : World → Prop} {a : Act} {w : World} (h1 : (ops[i]?).isSome = true)
    (hT : ∀ S a w, wpTree P ops Q t S a w → wpAnyH P .any ops Q S t.size (l.setIfInBounds i true) a w) (h : wpAct P ops Q (ops.getD i default) (wpTree P ops Q t) S a w) :
    wpOp P ops Q i (fun a' w' => S w' ∧ wpAnyH P .any ops Q S t.size (l.setIfInBounds i true) a' w') a w := by
  obtain ⟨o, ho⟩ := Option.isSome_iff_exists.1 h1
  have hg : ops.getD i default = o := by simp [Array.getD_eq_getD_getElem?, ho]
  rw [hg] at h
  unfold wpAct at h
  unfold wpOp
  rw [ho]
  dsimp only
  split
  · next hw =>
    rw [if_pos hw] at h
    refine .inl (Oper.wp_mono ?_ h)
    rintro a' w' ⟨S', hS, hw, h'⟩
    exact ⟨hS _ hw, wpAnyH_mono hS _ _ _ _ (hT S' a' w' h')⟩
  · next hw =>
    rw [if_neg hw] at h
    exact ⟨h.1, hT S _ w h.2⟩

theorem wpTree_sound (hsel : Region.noSelect ops = true) (hQ : ∀ c (a : Act) d v w, Q (.panic c) (a.put d v) w → Q (.panic c) a w) :
    ∀ (t : OTree) (l : Array Bool) (S : World → Prop) (a : Act) (w : World), okTree ops t l = true → wpTree P ops Q t S a w → wpAnyH P .any ops Q S t.size l a w
  | .fin ord, l, S, a, w, hok, h => wpSeq_sound hsel hQ ord l S a w hok h
  | .fork ord i j ti tj, l, S, a, w, hok, h => by
    simp only [okTree, Bool.and_eq_true, beq_iff_eq] at hok
    obtain ⟨⟨⟨⟨⟨⟨h1, h3⟩, h4⟩, h5⟩, h6⟩, h7⟩, h8⟩ := hok
    refine takes_sound (fuel := ti.size + 1) hsel hQ ord l a w h1 (fun a w hT => ?_) h
    refine wpAnyH_all h3 (by simp) fun k hk => ?_
    rcases List.mem_cons.1 hk with rfl | hk
    · exact tree_one h4 (fun S a w => wpTree_sound hsel hQ ti _ S a w h6) hT.1
    · obtain rfl : k = j := by simpa using hk
      rw [h8]
      exact tree_one h5 (fun S a w => wpTree_sound hsel hQ tj _ S a w h7) hT.2

def okForks (ops : Array Oper) (t : OTree) : Bool := okTree ops t (Array.replicate ops.size false) && Region.noSelect ops && (t.size == ops.size)

theorem wp_region_forks {id : Nat} {a : Act} {w : World} (t : OTree) (S : World → Prop) (hm : P.follows .mixedOrders = true) (hok : okForks ops t = true)
    (hQ : ∀ c (a : Act) (i : Nat) v w, Q (.panic c) (a.put (some i) v) w → Q (.panic c) a w) (h : wpTree P ops Q t S a w.drew) : (Code.region id ops true).wp P Q a w := by
  simp only [okForks, Bool.and_eq_true, beq_iff_eq] at hok
  obtain ⟨⟨h1, h2⟩, h3⟩ := hok
  refine wp_region_held (S := S) hm ?_
  have hQ' : ∀ c (a : Act) d v w, Q (.panic c) (a.put d v) w → Q (.panic c) a w := fun c a d v w h => by
    cases d with
    | none => exact h
    | some i => exact hQ c a i v w h
  have := wpTree_sound h2 hQ' t _ S a _ h1 h
  rw [h3] at this
  exact this
end
end Go.Proofs.YtlfmkiclaijokaaGreatDoor

namespace Go.Proofs.YtlfmkiclaijokaaGreatDoor

section
variable {P : Program} {ops : Array Oper} {Q : Exit → Act → World → Prop} {md : Region.Mode} {S : World → Prop} {m : Nat}

/-- Whatever order is picked; the condition holds behind every operation but m. -/
def wpAnyM (P : Program) (md : Region.Mode) (ops : Array Oper) (Q : Exit → Act → World → Prop) (S : World → Prop) (m : Nat) : Nat → Array Bool → Act → World → Prop
  | 0, l, a, w => Region.ready md ops l = [] ∧ Q .normal a w
  | n + 1, l, a, w => (Region.ready md ops l = [] → Q .normal a w) ∧ ∀ i ∈ Region.ready md ops l, wpOp P ops Q i (fun a' w' => (i = m ∨ S w') ∧ wpAnyM P md ops Q S m n (l.setIfInBounds i true) a' w') a w

theorem wpAny_of_M : ∀ (n : Nat) (l : Array Bool) (a : Act) (w : World), wpAnyM P md ops Q S m n l a w → wpAny P md ops Q n l a w
  | 0, _, _, _, h => h
  | n + 1, _, _, _, h => ⟨h.1, fun i hi => wpOp_mono (fun a' w' h' => wpAny_of_M n _ a' w' h'.2) (h.2 i hi)⟩

theorem wpAnyM_mono {S' : World → Prop} (hs : ∀ x, S' x → S x) : ∀ (n : Nat) (l : Array Bool) (a : Act) (w : World), wpAnyM P md ops Q S' m n l a w → wpAnyM P md ops Q S m n l a w
  | 0, _, _, _, h => h
  | n + 1, _, _, _, h => ⟨h.1, fun i hi => wpOp_mono (fun a' w' h' => ⟨h'.1.imp id (hs _), wpAnyM_mono hs n _ a' w' h'.2⟩) (h.2 i hi)⟩

/-- Operation m waits for operation i. -/
def waitsFor (md : Region.Mode) (ops : Array Oper) (m i : Nat) : Bool := match ops[m]? with
  | some o => o.after.any fun e => Region.binds md e && e.on == i
  | none => false

theorem not_ready_of_waits {i : Nat} {l : Array Bool} (hw : waitsFor md ops m i = true) (hi : i ∈ Region.ready md ops l) (hm : m ∈ Region.ready md ops l) : False := by
  obtain ⟨hun, _⟩ := mem_ready.1 hi
  obtain ⟨_, om, ho, hall⟩ := mem_ready.1 hm
  unfold waitsFor at hw
  rw [ho] at hw
  obtain ⟨k, hk, hp⟩ := Array.any_eq_true.1 hw
  simp only [Bool.and_eq_true, beq_iff_eq] at hp
  have h1 := hall _ (Array.getElem_mem hk) hp.1
  rw [hp.2] at h1
  rcases Nat.lt_or_ge i l.size with h' | h'
  · simp [h'] at hun h1; rw [hun] at h1; cases h1
  · simp [Array.getElem?_eq_none h'] at h1

theorem wpAnyM_first {i : Nat} {oi : Oper} {v : Value} (hi : ops[i]? = some oi) (hsel : ∀ (j : Nat) (o : Oper) cs b, ops[j]? = some o → o.op ≠ .select cs b) (hwt : waitsFor md ops m i = true)
    (hQ : ∀ c a w, Q (.panic c) (a.put oi.dst v) w → Q (.panic c) a w) :
    ∀ (n : Nat) (l : Array Bool) (a : Act) (w : World), Region.free md ops l i = true → i ∈ Region.ready md ops l → YieldsIf P ops S oi v a → S w →
      (∀ j oj, ops[j]? = some oj → j ≠ i → l.getD j true = false → (∀ e ∈ oj.after, Region.binds md e = true → e.on ≠ i) → oi.apart ops oj = true) →
      wpAnyM P md ops Q S m n (l.setIfInBounds i true) (a.put oi.dst v) w → wpAnyM P md ops Q S m (n + 1) l a w := by
  intro n
  suffices key : ∀ (l : Array Bool) (a : Act) (w : World), i ∈ Region.ready md ops l → YieldsIf P ops S oi v a → S w →
      (∀ j oj, ops[j]? = some oj → j ≠ i → l.getD j true = false → (∀ e ∈ oj.after, Region.binds md e = true → e.on ≠ i) → oi.apart ops oj = true) →
      wpAnyM P md ops Q S m n (l.setIfInBounds i true) (a.put oi.dst v) w → wpAnyM P md ops Q S m (n + 1) l a w from fun l a w _ h2 h3 h4 h5 h6 => key l a w h2 h3 h4 h5 h6
  induction n with
  | zero =>
    intro l a w hr hy hS _ H
    refine ⟨fun h => (by rw [h] at hr; cases hr), fun j hj => ?_⟩
    by_cases e : j = i
    · subst e; exact hy.wpOp hi hS ⟨.inr hS, H⟩
    · have h2 := ready_mono hj e
      rw [H.1] at h2
      cases h2
  | succ n ih =>
    intro l a w hr hy hS hfree H
    refine ⟨fun h => (by rw [h] at hr; cases hr), fun j hj => ?_⟩
    by_cases e : j = i
    · subst e; exact hy.wpOp hi hS ⟨.inr hS, H⟩
    · have hjm : j ≠ m := fun e => not_ready_of_waits hwt hr (e ▸ hj)
      have hr0 := (mem_ready.1 hr).1
      obtain ⟨hjun, oj, hoj, hall⟩ := mem_ready.1 hj
      have hnot : ∀ e ∈ oj.after, Region.binds md e = true → e.on ≠ i := fun x hx hb hx2 => by
        have h1 := hall x hx hb
        rw [hx2] at h1
        rcases Nat.lt_or_ge i l.size with h' | h'
        · simp [h'] at hr0 h1; rw [hr0] at h1; cases h1
        · simp [Array.getElem?_eq_none h'] at h1
      have h2 := wpOp_putIf hoj (hfree j oj hoj e hjun hnot) (fun cs b => hsel i oi cs b hi) (fun cs b => hsel j oj cs b hoj) hQ hy (H.2 j (ready_mono hj e))
      refine wpOp_mono (fun a' w' h3 => ?_) h2
      have hS' : S w' := h3.2.1.resolve_left hjm
      refine ⟨.inr hS', ih _ a' w' (ready_mono hr (Ne.symm e)) h3.1 hS' (fun k ok hk hki hun hno => hfree k ok hk hki ?_ hno) ?_⟩
      · by_cases hjk : j = k
        · subst hjk; exact hjun
        · rw [getD_set_ne true hjk] at hun; exact hun
      · rw [Array.setIfInBounds_comm _ _ e]
        exact h3.2.2

def okSeqM (ops : Array Oper) (m : Nat) : List (Nat × Bool) → Array Bool → Bool
  | [], _ => false
  | (i, true) :: rest, l => (ops[i]?).isSome && waitsFor .any ops m i && Region.free .any ops l i && (Region.ready .any ops l).contains i && okSeqM ops m rest (l.setIfInBounds i true)
  | [(i, false)], l => i == m && (ops[i]?).isSome && (Region.ready .any ops l == [i]) && (Region.ready .any ops (l.setIfInBounds i true)).isEmpty
  | (i, false) :: x :: rest, l => (ops[i]?).isSome && (Region.ready .any ops l == [i]) && okSeqM ops m (x :: rest) (l.setIfInBounds i true)

def wpSeqM (P : Program) (ops : Array Oper) (Q : Exit → Act → World → Prop) : List (Oper × Bool) → (World → Prop) → Act → World → Prop
  | [], _, a, w => Q .normal a w
  | (o, true) :: rest, S, a, w => ∃ v, YieldsIf P ops S o v a ∧ S w ∧ wpSeqM P ops Q rest S (a.put o.dst v) w
  | [(o, false)], _, a, w => if Region.wanted o (yielded ops a.tmps) then o.wp P a w (fun a' w' => Q .normal a' w') Q else Q .normal (a.put o.dst undef) w
  | (o, false) :: x :: rest, S, a, w => if Region.wanted o (yielded ops a.tmps) then o.wp P a w (fun a' w' => ∃ S' : World → Prop, (∀ x, S' x → S x) ∧ S' w' ∧ wpSeqM P ops Q (x :: rest) S' a' w') Q
      else S w ∧ wpSeqM P ops Q (x :: rest) S (a.put o.dst undef) w

theorem wpSeqM_sound (hsel : Region.noSelect ops = true) (hQ : ∀ c (a : Act) d v w, Q (.panic c) (a.put d v) w → Q (.panic c) a w) :
    ∀ (ord : List (Nat × Bool)) (l : Array Bool) (S : World → Prop) (a : Act) (w : World), okSeqM ops m ord l = true → wpSeqM P ops Q (pickOps ops ord) S a w → wpAnyM P .any ops Q S m ord.length l a w
  | [], l, S, a, w, hok, h => by cases hok
  | (i, true) :: rest, l, S, a, w, hok, h => by
    simp only [okSeqM, Bool.and_eq_true] at hok
    obtain ⟨⟨⟨⟨h1, hw⟩, h2⟩, h3⟩, h4⟩ := hok
    obtain ⟨o, ho⟩ := Option.isSome_iff_exists.1 h1
    have hg : ops.getD i default = o := by simp [Array.getD_eq_getD_getElem?, ho]
    simp only [pickOps, wpSeqM, hg] at h
    obtain ⟨v, hy, hS, h⟩ := h
    exact wpAnyM_first ho (Region.noSelect_spec hsel) hw (fun c a w => hQ c a _ _ w) _ l a w h2 (by simpa using h3) hy hS (Region.free_spec ho h2) (wpSeqM_sound hsel hQ rest _ S _ w h4 h)
  | [(i, false)], l, S, a, w, hok, h => by
    simp only [okSeqM, Bool.and_eq_true, beq_iff_eq] at hok
    obtain ⟨⟨⟨h0, h1⟩, h2⟩, h4⟩ := hok
    obtain ⟨o, ho⟩ := Option.isSome_iff_exists.1 h1
    have hg : ops.getD i default = o := by simp [Array.getD_eq_getD_getElem?, ho]
    have h4' : Region.ready .any ops (l.setIfInBounds i true) = [] := by simpa using h4
    refine ⟨fun e => (by rw [h2] at e; cases e), fun j hj => ?_⟩
    rw [h2] at hj
    obtain rfl : j = i := by simpa using hj
    simp only [pickOps, wpSeqM, hg] at h
    unfold wpOp
    rw [ho]
    dsimp only
    split
    · next hw =>
      rw [if_pos hw] at h
      exact .inl (Oper.wp_mono (fun a' w' h' => ⟨.inl h0, h4', h'⟩) h)
    · next hw =>
      rw [if_neg hw] at h
      exact ⟨.inl h0, h4', h⟩
  | (i, false) :: x :: rest, l, S, a, w, hok, h => by
    simp only [okSeqM, Bool.and_eq_true, beq_iff_eq] at hok
    obtain ⟨⟨h1, h2⟩, h4⟩ := hok
    obtain ⟨o, ho⟩ := Option.isSome_iff_exists.1 h1
    have hg : ops.getD i default = o := by simp [Array.getD_eq_getD_getElem?, ho]
    refine ⟨fun e => (by rw [h2] at e; cases e), fun j hj => ?_⟩
    rw [h2] at hj
    obtain rfl : j = i := by simpa using hj
    obtain ⟨x1, x2⟩ := x
    simp only [pickOps, wpSeqM, hg] at h
    unfold wpOp
    rw [ho]
    dsimp only
    split
    · next hw =>
      rw [if_pos hw] at h
      refine .inl (Oper.wp_mono ?_ h)
      rintro a' w' ⟨S', hS, hw, h'⟩
      exact ⟨.inr (hS _ hw), wpAnyM_mono hS _ _ _ _ (wpSeqM_sound hsel hQ ((x1, x2) :: rest) _ S' a' w' h4 h')⟩
    · next hw =>
      rw [if_neg hw] at h
      exact ⟨.inr h.1, wpSeqM_sound hsel hQ ((x1, x2) :: rest) _ S _ w h4 h.2⟩

def okRegionM (ops : Array Oper) (m : Nat) (ord : List (Nat × Bool)) : Bool := okSeqM ops m ord (Array.replicate ops.size false) && Region.noSelect ops && ord.length == ops.size

/-- THE BEGINNING. -/
theorem wp_region_last {id : Nat} {a : Act} {w : World} (m : Nat) (ord : List (Nat × Bool)) (S : World → Prop) (hm : P.follows .mixedOrders = true) (hok : okRegionM ops m ord = true)
    (hQ : ∀ c (a : Act) (i : Nat) v w, Q (.panic c) (a.put (some i) v) w → Q (.panic c) a w) (h : wpSeqM P ops Q (pickOps ops ord) S a w.drew) : (Code.region id ops true).wp P Q a w := by
  simp only [okRegionM, Bool.and_eq_true, beq_iff_eq] at hok
  obtain ⟨⟨h1, h2⟩, h3⟩ := hok
  have hQ' : ∀ c (a : Act) d v w, Q (.panic c) (a.put d v) w → Q (.panic c) a w := fun c a d v w h => by
    cases d with
    | none => exact h
    | some i => exact hQ c a i v w h
  have := wpSeqM_sound h2 hQ' ord _ S a _ h1 h
  rw [h3] at this
  exact wp_region_any hm (wpAny_of_M _ _ _ _ this)

variable {rest : List (Oper × Bool)} {a : Act} {w : World} {o : Oper} {x : Oper × Bool}

theorem wpSeqM_run (hw : Region.wanted o (yielded ops a.tmps) = true) (hS : S w)
    (h : ∀ K : Act → Prop, (∀ a, wpSeqM P ops Q rest S a w → K a) → ∃ v, (∀ w', S w' → (execOp a.eval o).run P w' = .ok (.value v) w') ∧ K (a.put o.dst v)) : wpSeqM P ops Q ((o, true) :: rest) S a w := by
  obtain ⟨v, hv, hk⟩ := h _ fun _ h => h
  unfold wpSeqM
  exact ⟨v, .inl ⟨hw, hv⟩, hS, hk⟩

theorem wpSeqM_skip (hw : Region.wanted o (yielded ops a.tmps) = false) (hS : S w)
    (h : ∀ K : Act → Prop, (∀ a, wpSeqM P ops Q rest S a w → K a) → K (a.put o.dst undef)) : wpSeqM P ops Q ((o, true) :: rest) S a w := by
  unfold wpSeqM
  exact ⟨undef, .inr ⟨hw, rfl⟩, hS, h _ fun _ h => h⟩

theorem wpSeqM_act (hw : Region.wanted o (yielded ops a.tmps) = true)
    (h : ∀ K : Act → World → Prop, (∀ a' w' (S' : World → Prop), (∀ x, S' x → S x) → S' w' → wpSeqM P ops Q (x :: rest) S' a' w' → K a' w') → o.wp P a w K Q) : wpSeqM P ops Q ((o, false) :: x :: rest) S a w := by
  unfold wpSeqM
  rw [if_pos hw]
  exact h _ fun a' w' S' h1 h2 h3 => ⟨S', h1, h2, h3⟩

/-- The last one. -/
theorem wpSeqM_last (hw : Region.wanted o (yielded ops a.tmps) = true)
    (h : ∀ K : Act → World → Prop, (∀ a' w', Q .normal a' w' → K a' w') → o.wp P a w K Q) : wpSeqM P ops Q [(o, false)] S a w := by
  unfold wpSeqM
  rw [if_pos hw]
  exact h _ fun a' w' h1 => h1
end
end Go.Proofs.YtlfmkiclaijokaaGreatDoor

namespace Go.Proofs.YtlfmkiclaijokaaGreatDoor

section
variable {P : Program} {ops : Array Oper} {Q : Exit → Act → World → Prop} {md : Region.Mode} {S : World → Prop} {m : Nat}

/-- Whatever order is picked; the condition holds as long as m is not done. -/
def wpAnyN (P : Program) (md : Region.Mode) (ops : Array Oper) (Q : Exit → Act → World → Prop) (S : World → Prop) (m : Nat) : Nat → Array Bool → Act → World → Prop
  | 0, l, a, w => Region.ready md ops l = [] ∧ Q .normal a w
  | n + 1, l, a, w => (Region.ready md ops l = [] → Q .normal a w) ∧ ∀ i ∈ Region.ready md ops l, wpOp P ops Q i (fun a' w' => ((i = m ∨ l.getD m false = true) ∨ S w') ∧ wpAnyN P md ops Q S m n (l.setIfInBounds i true) a' w') a w

theorem wpAny_of_N : ∀ (n : Nat) (l : Array Bool) (a : Act) (w : World), wpAnyN P md ops Q S m n l a w → wpAny P md ops Q n l a w
  | 0, _, _, _, h => h
  | n + 1, _, _, _, h => ⟨h.1, fun i hi => wpOp_mono (fun a' w' h' => wpAny_of_N n _ a' w' h'.2) (h.2 i hi)⟩

theorem wpAnyN_mono {S' : World → Prop} (hs : ∀ x, S' x → S x) : ∀ (n : Nat) (l : Array Bool) (a : Act) (w : World), wpAnyN P md ops Q S' m n l a w → wpAnyN P md ops Q S m n l a w
  | 0, _, _, _, h => h
  | n + 1, _, _, _, h => ⟨h.1, fun i hi => wpOp_mono (fun a' w' h' => ⟨h'.1.imp id (hs _), wpAnyN_mono hs n _ a' w' h'.2⟩) (h.2 i hi)⟩

theorem getD_set_other {l : Array Bool} {i m : Nat} (h : i ≠ m) (d : Bool) : (l.setIfInBounds i true).getD m d = l.getD m d := by
  simp [Array.getD_eq_getD_getElem?, h]

theorem wpAnyN_first {i : Nat} {oi : Oper} {v : Value} (hi : ops[i]? = some oi) (hsel : ∀ (j : Nat) (o : Oper) cs b, ops[j]? = some o → o.op ≠ .select cs b) (hwt : waitsFor md ops m i = true)
    (hQ : ∀ c a w, Q (.panic c) (a.put oi.dst v) w → Q (.panic c) a w) :
    ∀ (n : Nat) (l : Array Bool) (a : Act) (w : World), l.getD m false = false → i ≠ m → Region.free md ops l i = true → i ∈ Region.ready md ops l → YieldsIf P ops S oi v a → S w →
      (∀ j oj, ops[j]? = some oj → j ≠ i → l.getD j true = false → (∀ e ∈ oj.after, Region.binds md e = true → e.on ≠ i) → oi.apart ops oj = true) →
      wpAnyN P md ops Q S m n (l.setIfInBounds i true) (a.put oi.dst v) w → wpAnyN P md ops Q S m (n + 1) l a w := by
  intro n
  suffices key : ∀ (l : Array Bool) (a : Act) (w : World), l.getD m false = false → i ≠ m → i ∈ Region.ready md ops l → YieldsIf P ops S oi v a → S w →
      (∀ j oj, ops[j]? = some oj → j ≠ i → l.getD j true = false → (∀ e ∈ oj.after, Region.binds md e = true → e.on ≠ i) → oi.apart ops oj = true) →
      wpAnyN P md ops Q S m n (l.setIfInBounds i true) (a.put oi.dst v) w → wpAnyN P md ops Q S m (n + 1) l a w from fun l a w h0 hne _ h2 h3 h4 h5 h6 => key l a w h0 hne h2 h3 h4 h5 h6
  induction n with
  | zero =>
    intro l a w h0 hne hr hy hS _ H
    refine ⟨fun h => (by rw [h] at hr; cases hr), fun j hj => ?_⟩
    by_cases e : j = i
    · subst e; exact hy.wpOp hi hS ⟨.inr hS, H⟩
    · have h2 := ready_mono hj e
      rw [H.1] at h2
      cases h2
  | succ n ih =>
    intro l a w h0 hne hr hy hS hfree H
    refine ⟨fun h => (by rw [h] at hr; cases hr), fun j hj => ?_⟩
    by_cases e : j = i
    · subst e; exact hy.wpOp hi hS ⟨.inr hS, H⟩
    · have hjm : j ≠ m := fun e => not_ready_of_waits hwt hr (e ▸ hj)
      have hr0 := (mem_ready.1 hr).1
      obtain ⟨hjun, oj, hoj, hall⟩ := mem_ready.1 hj
      have hnot : ∀ e ∈ oj.after, Region.binds md e = true → e.on ≠ i := fun x hx hb hx2 => by
        have h1 := hall x hx hb
        rw [hx2] at h1
        rcases Nat.lt_or_ge i l.size with h' | h'
        · simp [h'] at hr0 h1; rw [hr0] at h1; cases h1
        · simp [Array.getElem?_eq_none h'] at h1
      have h2 := wpOp_putIf hoj (hfree j oj hoj e hjun hnot) (fun cs b => hsel i oi cs b hi) (fun cs b => hsel j oj cs b hoj) hQ hy (H.2 j (ready_mono hj e))
      refine wpOp_mono (fun a' w' h3 => ?_) h2
      have hS' : S w' := h3.2.1.resolve_left (by
        rintro (h | h)
        · exact hjm h
        · rw [getD_set_other hne, h0] at h
          cases h)
      refine ⟨.inr hS', ih _ a' w' (by rw [getD_set_other hjm]; exact h0) hne (ready_mono hr (Ne.symm e)) h3.1 hS' (fun k ok hk hki hun hno => hfree k ok hk hki ?_ hno) ?_⟩
      · by_cases hjk : j = k
        · subst hjk; exact hjun
        · rw [getD_set_ne true hjk] at hun; exact hun
      · rw [Array.setIfInBounds_comm _ _ e]
        exact h3.2.2

/-- One by one. -/
def okSeqF (ops : Array Oper) : List Nat → Array Bool → Bool
  | [], l => (Region.ready .any ops l).isEmpty
  | i :: rest, l => (ops[i]?).isSome && (Region.ready .any ops l == [i]) && okSeqF ops rest (l.setIfInBounds i true)

def okSeqN (ops : Array Oper) (m : Nat) (tail : List Nat) : List (Nat × Bool) → Array Bool → Bool
  | [], l => match tail with
    | [] => false
    | k :: rest => k == m && decide (m < l.size) && okSeqF ops (k :: rest) l
  | (i, true) :: rest, l => (ops[i]?).isSome && waitsFor .any ops m i && !(l.getD m false) && (i != m) && Region.free .any ops l i && (Region.ready .any ops l).contains i && okSeqN ops m tail rest (l.setIfInBounds i true)
  | (i, false) :: rest, l => (ops[i]?).isSome && (Region.ready .any ops l == [i]) && okSeqN ops m tail rest (l.setIfInBounds i true)

def wpSeqF (P : Program) (ops : Array Oper) (Q : Exit → Act → World → Prop) : List Oper → Act → World → Prop
  | [], a, w => Q .normal a w
  | o :: rest, a, w => if Region.wanted o (yielded ops a.tmps) then o.wp P a w (fun a' w' => wpSeqF P ops Q rest a' w') Q else wpSeqF P ops Q rest (a.put o.dst undef) w

def wpSeqN (P : Program) (ops : Array Oper) (Q : Exit → Act → World → Prop) (tail : List Oper) : List (Oper × Bool) → (World → Prop) → Act → World → Prop
  | [], _, a, w => wpSeqF P ops Q tail a w
  | (o, true) :: rest, S, a, w => ∃ v, YieldsIf P ops S o v a ∧ S w ∧ wpSeqN P ops Q tail rest S (a.put o.dst v) w
  | (o, false) :: rest, S, a, w => if Region.wanted o (yielded ops a.tmps) then o.wp P a w (fun a' w' => ∃ S' : World → Prop, (∀ x, S' x → S x) ∧ S' w' ∧ wpSeqN P ops Q tail rest S' a' w') Q
      else S w ∧ wpSeqN P ops Q tail rest S (a.put o.dst undef) w

def pickTail (ops : Array Oper) (l : List Nat) : List Oper := l.map fun i => ops.getD i default

theorem wpSeqF_sound : ∀ (ord : List Nat) (l : Array Bool) (a : Act) (w : World), (∀ i rest, ord = i :: rest → i = m ∨ l.getD m false = true) → m < l.size → okSeqF ops ord l = true → wpSeqF P ops Q (pickTail ops ord) a w → wpAnyN P .any ops Q S m ord.length l a w
  | [], l, a, w, _, _, hok, h => ⟨by simpa [okSeqF] using hok, h⟩
  | i :: rest, l, a, w, hd, hml, hok, h => by
    simp only [okSeqF, Bool.and_eq_true, beq_iff_eq] at hok
    obtain ⟨⟨h1, h2⟩, h4⟩ := hok
    obtain ⟨o, ho⟩ := Option.isSome_iff_exists.1 h1
    have hg : ops.getD i default = o := by simp [Array.getD_eq_getD_getElem?, ho]
    have hnext : ∀ a' w', wpSeqF P ops Q (pickTail ops rest) a' w' → wpAnyN P .any ops Q S m rest.length (l.setIfInBounds i true) a' w' := fun a' w' h' => by
      refine wpSeqF_sound rest _ a' w' (fun j r hr => .inr ?_) (by simpa using hml) h4 h'
      by_cases e : i = m
      · subst e
        simp [Array.getD_eq_getD_getElem?, hml]
      · rw [getD_set_other e]
        exact (hd i rest rfl).resolve_left e
    refine ⟨fun e => (by rw [h2] at e; cases e), fun j hj => ?_⟩
    rw [h2] at hj
    obtain rfl : j = i := by simpa using hj
    simp only [pickTail, List.map_cons, wpSeqF, hg] at h
    refine (show ∀ X : Prop, X → wpOp P ops Q j (fun a' w' => (X ∨ S w') ∧ wpAnyN P .any ops Q S m rest.length (l.setIfInBounds j true) a' w') a w from fun X hX => ?_) _ (hd j rest rfl)
    unfold wpOp
    rw [ho]
    dsimp only
    split
    · next hw =>
      rw [if_pos hw] at h
      exact .inl (Oper.wp_mono (fun a' w' h' => ⟨.inl hX, hnext _ _ h'⟩) h)
    · next hw =>
      rw [if_neg hw] at h
      exact ⟨.inl hX, hnext _ _ h⟩

theorem wpSeqN_sound (tail : List Nat) (hsel : Region.noSelect ops = true) (hQ : ∀ c (a : Act) d v w, Q (.panic c) (a.put d v) w → Q (.panic c) a w) :
    ∀ (ord : List (Nat × Bool)) (l : Array Bool) (S : World → Prop) (a : Act) (w : World), okSeqN ops m tail ord l = true → wpSeqN P ops Q (pickTail ops tail) (pickOps ops ord) S a w → wpAnyN P .any ops Q S m (ord.length + tail.length) l a w
  | [], l, S, a, w, hok, h => by
    unfold okSeqN at hok
    cases tail with
    | nil => cases hok
    | cons k rest =>
      simp only [Bool.and_eq_true, beq_iff_eq, decide_eq_true_eq] at hok
      obtain ⟨⟨h1, h2⟩, h3⟩ := hok
      rw [List.length_nil, Nat.zero_add]
      exact wpSeqF_sound (k :: rest) l a w (fun i r e => .inl (by cases e; exact h1)) h2 h3 h
  | (i, true) :: rest, l, S, a, w, hok, h => by
    simp only [okSeqN, Bool.and_eq_true, bne_iff_ne, Bool.not_eq_true'] at hok
    obtain ⟨⟨⟨⟨⟨⟨h1, hw⟩, h0⟩, hne⟩, h2⟩, h3⟩, h4⟩ := hok
    obtain ⟨o, ho⟩ := Option.isSome_iff_exists.1 h1
    have hg : ops.getD i default = o := by simp [Array.getD_eq_getD_getElem?, ho]
    simp only [pickOps, wpSeqN, hg] at h
    obtain ⟨v, hy, hS, h⟩ := h
    rw [List.length_cons, Nat.add_right_comm]
    exact wpAnyN_first ho (Region.noSelect_spec hsel) hw (fun c a w => hQ c a _ _ w) _ l a w h0 hne h2 (by simpa using h3) hy hS (Region.free_spec ho h2) (wpSeqN_sound tail hsel hQ rest _ S _ w h4 h)
  | (i, false) :: rest, l, S, a, w, hok, h => by
    simp only [okSeqN, Bool.and_eq_true, beq_iff_eq] at hok
    obtain ⟨⟨h1, h2⟩, h4⟩ := hok
    obtain ⟨o, ho⟩ := Option.isSome_iff_exists.1 h1
    have hg : ops.getD i default = o := by simp [Array.getD_eq_getD_getElem?, ho]
    rw [List.length_cons, Nat.add_right_comm]
    refine ⟨fun e => (by rw [h2] at e; cases e), fun j hj => ?_⟩
    rw [h2] at hj
    obtain rfl : j = i := by simpa using hj
    simp only [pickOps, wpSeqN, hg] at h
    unfold wpOp
    rw [ho]
    dsimp only
    split
    · next hw =>
      rw [if_pos hw] at h
      refine .inl (Oper.wp_mono ?_ h)
      rintro a' w' ⟨S', hS, hw, h'⟩
      exact ⟨.inr (hS _ hw), wpAnyN_mono hS _ _ _ _ (wpSeqN_sound tail hsel hQ rest _ S' a' w' h4 h')⟩
    · next hw =>
      rw [if_neg hw] at h
      exact ⟨.inr h.1, wpSeqN_sound tail hsel hQ rest _ S _ w h4 h.2⟩

def okRegionN (ops : Array Oper) (m : Nat) (ord : List (Nat × Bool)) (tail : List Nat) : Bool := okSeqN ops m tail ord (Array.replicate ops.size false) && Region.noSelect ops && ord.length + tail.length == ops.size

/-- THE BEGINNING. -/
theorem wp_region_mid {id : Nat} {a : Act} {w : World} (m : Nat) (ord : List (Nat × Bool)) (tail : List Nat) (S : World → Prop) (hm : P.follows .mixedOrders = true) (hok : okRegionN ops m ord tail = true)
    (hQ : ∀ c (a : Act) (i : Nat) v w, Q (.panic c) (a.put (some i) v) w → Q (.panic c) a w) (h : wpSeqN P ops Q (pickTail ops tail) (pickOps ops ord) S a w.drew) : (Code.region id ops true).wp P Q a w := by
  simp only [okRegionN, Bool.and_eq_true, beq_iff_eq] at hok
  obtain ⟨⟨h1, h2⟩, h3⟩ := hok
  have hQ' : ∀ c (a : Act) d v w, Q (.panic c) (a.put d v) w → Q (.panic c) a w := fun c a d v w h => by
    cases d with
    | none => exact h
    | some i => exact hQ c a i v w h
  have := wpSeqN_sound tail h2 hQ' ord _ S a _ h1 h
  rw [h3] at this
  exact wp_region_any hm (wpAny_of_N _ _ _ _ this)

variable {rest : List (Oper × Bool)} {tail : List Oper} {a : Act} {w : World} {o : Oper}

theorem wpSeqN_run (hw : Region.wanted o (yielded ops a.tmps) = true) (hS : S w)
    (h : ∀ K : Act → Prop, (∀ a, wpSeqN P ops Q tail rest S a w → K a) → ∃ v, (∀ w', S w' → (execOp a.eval o).run P w' = .ok (.value v) w') ∧ K (a.put o.dst v)) : wpSeqN P ops Q tail ((o, true) :: rest) S a w := by
  obtain ⟨v, hv, hk⟩ := h _ fun _ h => h
  unfold wpSeqN
  exact ⟨v, .inl ⟨hw, hv⟩, hS, hk⟩

theorem wpSeqN_skip (hw : Region.wanted o (yielded ops a.tmps) = false) (hS : S w)
    (h : ∀ K : Act → Prop, (∀ a, wpSeqN P ops Q tail rest S a w → K a) → K (a.put o.dst undef)) : wpSeqN P ops Q tail ((o, true) :: rest) S a w := by
  unfold wpSeqN
  exact ⟨undef, .inr ⟨hw, rfl⟩, hS, h _ fun _ h => h⟩

theorem wpSeqN_act (hw : Region.wanted o (yielded ops a.tmps) = true)
    (h : ∀ K : Act → World → Prop, (∀ a' w' (S' : World → Prop), (∀ x, S' x → S x) → S' w' → wpSeqN P ops Q tail rest S' a' w' → K a' w') → o.wp P a w K Q) : wpSeqN P ops Q tail ((o, false) :: rest) S a w := by
  unfold wpSeqN
  rw [if_pos hw]
  exact h _ fun a' w' S' h1 h2 h3 => ⟨S', h1, h2, h3⟩

theorem wpSeqN_tail (h : wpSeqF P ops Q tail a w) : wpSeqN P ops Q tail [] S a w := h

theorem wpSeqF_act {tail : List Oper} (hw : Region.wanted o (yielded ops a.tmps) = true)
    (h : ∀ K : Act → World → Prop, (∀ a' w', wpSeqF P ops Q tail a' w' → K a' w') → o.wp P a w K Q) : wpSeqF P ops Q (o :: tail) a w := by
  unfold wpSeqF
  rw [if_pos hw]
  exact h _ fun a' w' h1 => h1

theorem wpSeqF_pass {tail : List Oper} (hw : Region.wanted o (yielded ops a.tmps) = false)
    (h : ∀ K : Act → World → Prop, (∀ a' w', wpSeqF P ops Q tail a' w' → K a' w') → K (a.put o.dst undef) w) : wpSeqF P ops Q (o :: tail) a w := by
  unfold wpSeqF
  rw [if_neg (by rw [hw]; simp)]
  exact h _ fun a' w' h1 => h1

theorem wpSeqF_end (h : Q .normal a w) : wpSeqF P ops Q [] a w := h
end
#print axioms wp_region_mid
end Go.Proofs.YtlfmkiclaijokaaGreatDoor

namespace Go.Proofs.YtlfmkiclaijokaaGreatDoor

section
variable {P : Program} {ops : Array Oper} {Q : Exit → Act → World → Prop} {md : Region.Mode} {C : Array Bool → World → Prop}

/-- Whatever order is picked; the condition speaks of what is done and of the world. -/
def wpAnyC (P : Program) (md : Region.Mode) (ops : Array Oper) (Q : Exit → Act → World → Prop) (C : Array Bool → World → Prop) : Nat → Array Bool → Act → World → Prop
  | 0, l, a, w => Region.ready md ops l = [] ∧ Q .normal a w
  | n + 1, l, a, w => (Region.ready md ops l = [] → Q .normal a w) ∧ ∀ i ∈ Region.ready md ops l, wpOp P ops Q i (fun a' w' => C (l.setIfInBounds i true) w' ∧ wpAnyC P md ops Q C n (l.setIfInBounds i true) a' w') a w

theorem wpAny_of_C : ∀ (n : Nat) (l : Array Bool) (a : Act) (w : World), wpAnyC P md ops Q C n l a w → wpAny P md ops Q n l a w
  | 0, _, _, _, h => h
  | n + 1, _, _, _, h => ⟨h.1, fun i hi => wpOp_mono (fun a' w' h' => wpAny_of_C n _ a' w' h'.2) (h.2 i hi)⟩

theorem wpAnyC_mono {C' : Array Bool → World → Prop} (hs : ∀ l x, C' l x → C l x) : ∀ (n : Nat) (l : Array Bool) (a : Act) (w : World), wpAnyC P md ops Q C' n l a w → wpAnyC P md ops Q C n l a w
  | 0, _, _, _, h => h
  | n + 1, _, _, _, h => ⟨h.1, fun i hi => wpOp_mono (fun a' w' h' => ⟨hs _ _ h'.1, wpAnyC_mono hs n _ a' w' h'.2⟩) (h.2 i hi)⟩

theorem wpAnyC_first {i : Nat} {oi : Oper} {v : Value} {Y : World → Prop} {Inv : Array Bool → Prop} (hi : ops[i]? = some oi) (hsel : ∀ (j : Nat) (o : Oper) cs b, ops[j]? = some o → o.op ≠ .select cs b)
    (hQ : ∀ c a w, Q (.panic c) (a.put oi.dst v) w → Q (.panic c) a w) (hCY : ∀ l w, Inv l → C (l.setIfInBounds i true) w → Y w) (hback : ∀ l w, Inv l → C (l.setIfInBounds i true) w → C l w)
    (hstep : ∀ (l : Array Bool) (j : Nat), Inv l → i ∈ Region.ready md ops l → j ∈ Region.ready md ops l → j ≠ i → Inv (l.setIfInBounds j true)) :
    ∀ (n : Nat) (l : Array Bool) (a : Act) (w : World), Inv l → i ∈ Region.ready md ops l → YieldsIf P ops Y oi v a → C (l.setIfInBounds i true) w →
      (∀ j oj, ops[j]? = some oj → j ≠ i → l.getD j true = false → (∀ e ∈ oj.after, Region.binds md e = true → e.on ≠ i) → oi.apart ops oj = true) →
      wpAnyC P md ops Q C n (l.setIfInBounds i true) (a.put oi.dst v) w → wpAnyC P md ops Q C (n + 1) l a w := by
  intro n
  induction n with
  | zero =>
    intro l a w hI hr hy hC _ H
    refine ⟨fun h => (by rw [h] at hr; cases hr), fun j hj => ?_⟩
    by_cases e : j = i
    · subst e; exact hy.wpOp hi (hCY l w hI hC) ⟨hC, H⟩
    · have h2 := ready_mono hj e
      rw [H.1] at h2
      cases h2
  | succ n ih =>
    intro l a w hI hr hy hC hfree H
    refine ⟨fun h => (by rw [h] at hr; cases hr), fun j hj => ?_⟩
    by_cases e : j = i
    · subst e; exact hy.wpOp hi (hCY l w hI hC) ⟨hC, H⟩
    · have hr0 := (mem_ready.1 hr).1
      obtain ⟨hjun, oj, hoj, hall⟩ := mem_ready.1 hj
      have hnot : ∀ e ∈ oj.after, Region.binds md e = true → e.on ≠ i := fun x hx hb hx2 => by
        have h1 := hall x hx hb
        rw [hx2] at h1
        rcases Nat.lt_or_ge i l.size with h' | h'
        · simp [h'] at hr0 h1; rw [hr0] at h1; cases h1
        · simp [Array.getElem?_eq_none h'] at h1
      have hI2 := hstep l j hI hr hj e
      have h2 := wpOp_putIf hoj (hfree j oj hoj e hjun hnot) (fun cs b => hsel i oi cs b hi) (fun cs b => hsel j oj cs b hoj) hQ hy (H.2 j (ready_mono hj e))
      refine wpOp_mono (fun a' w' h3 => ?_) h2
      have hC2 : C ((l.setIfInBounds j true).setIfInBounds i true) w' := by rw [Array.setIfInBounds_comm _ _ e]; exact h3.2.1
      refine ⟨hback _ _ hI2 hC2, ih _ a' w' hI2 (ready_mono hr (Ne.symm e)) h3.1 hC2 (fun k ok hk hki hun hno => hfree k ok hk hki ?_ hno) ?_⟩
      · by_cases hjk : j = k
        · subst hjk; exact hjun
        · rw [getD_set_ne true hjk] at hun; exact hun
      · rw [Array.setIfInBounds_comm _ _ e]
        exact h3.2.2

def condT (m : Nat) (S T : World → Prop) (l : Array Bool) (w : World) : Prop := (l.getD m false = true ∨ S w) ∧ T w

def okSeqT (ops : Array Oper) (m : Nat) (tail : List Nat) : List (Nat × Nat) → Array Bool → Bool
  | [], l => match tail with
    | [] => false
    | k :: rest => k == m && decide (m < l.size) && okSeqF ops (k :: rest) l
  | (i, 1) :: rest, l => (ops[i]?).isSome && waitsFor .any ops m i && !(l.getD m false) && (i != m) && Region.free .any ops l i && (Region.ready .any ops l).contains i && okSeqT ops m tail rest (l.setIfInBounds i true)
  | (i, 2) :: rest, l => (ops[i]?).isSome && (i != m) && Region.free .any ops l i && (Region.ready .any ops l).contains i && okSeqT ops m tail rest (l.setIfInBounds i true)
  | (i, _) :: rest, l => (ops[i]?).isSome && (Region.ready .any ops l == [i]) && okSeqT ops m tail rest (l.setIfInBounds i true)

def pickT (ops : Array Oper) : List (Nat × Nat) → List (Oper × Nat)
  | [] => []
  | (i, b) :: rest => (ops.getD i default, b) :: pickT ops rest

def wpSeqG (P : Program) (ops : Array Oper) (Q : Exit → Act → World → Prop) (T : World → Prop) : List Oper → Act → World → Prop
  | [], a, w => Q .normal a w
  | o :: rest, a, w => if Region.wanted o (yielded ops a.tmps) then o.wp P a w (fun a' w' => T w' ∧ wpSeqG P ops Q T rest a' w') Q else T w ∧ wpSeqG P ops Q T rest (a.put o.dst undef) w

def wpSeqT (P : Program) (ops : Array Oper) (Q : Exit → Act → World → Prop) (T : World → Prop) (tail : List Oper) : List (Oper × Nat) → (World → Prop) → Act → World → Prop
  | [], _, a, w => wpSeqG P ops Q T tail a w
  | (o, 1) :: rest, S, a, w => ∃ v, YieldsIf P ops S o v a ∧ (S w ∧ T w) ∧ wpSeqT P ops Q T tail rest S (a.put o.dst v) w
  | (o, 2) :: rest, S, a, w => ∃ v, YieldsIf P ops T o v a ∧ (S w ∧ T w) ∧ wpSeqT P ops Q T tail rest S (a.put o.dst v) w
  | (o, _) :: rest, S, a, w => if Region.wanted o (yielded ops a.tmps) then o.wp P a w (fun a' w' => ∃ S' : World → Prop, (∀ x, S' x → S x) ∧ (S' w' ∧ T w') ∧ wpSeqT P ops Q T tail rest S' a' w') Q
      else (S w ∧ T w) ∧ wpSeqT P ops Q T tail rest S (a.put o.dst undef) w

variable {S T : World → Prop} {m : Nat}

theorem wpSeqG_sound : ∀ (ord : List Nat) (l : Array Bool) (a : Act) (w : World), (∀ i rest, ord = i :: rest → i = m ∨ l.getD m false = true) → m < l.size → okSeqF ops ord l = true → wpSeqG P ops Q T (pickTail ops ord) a w → wpAnyC P .any ops Q (condT m S T) ord.length l a w
  | [], l, a, w, _, _, hok, h => ⟨by simpa [okSeqF] using hok, h⟩
  | i :: rest, l, a, w, hd, hml, hok, h => by
    simp only [okSeqF, Bool.and_eq_true, beq_iff_eq] at hok
    obtain ⟨⟨h1, h2⟩, h4⟩ := hok
    obtain ⟨o, ho⟩ := Option.isSome_iff_exists.1 h1
    have hg : ops.getD i default = o := by simp [Array.getD_eq_getD_getElem?, ho]
    have hm1 : (l.setIfInBounds i true).getD m false = true := by
      by_cases e : i = m
      · subst e
        simp [Array.getD_eq_getD_getElem?, hml]
      · rw [getD_set_other e]
        exact (hd i rest rfl).resolve_left e
    have hnext : ∀ a' w', wpSeqG P ops Q T (pickTail ops rest) a' w' → wpAnyC P .any ops Q (condT m S T) rest.length (l.setIfInBounds i true) a' w' := fun a' w' h' =>
      wpSeqG_sound rest _ a' w' (fun j r hr => .inr hm1) (by simpa using hml) h4 h'
    refine ⟨fun e => (by rw [h2] at e; cases e), fun j hj => ?_⟩
    rw [h2] at hj
    obtain rfl : j = i := by simpa using hj
    simp only [pickTail, List.map_cons, wpSeqG, hg] at h
    refine (show ∀ X : World → Prop, (∀ x, T x → X x) → wpOp P ops Q j (fun a' w' => X w' ∧ wpAnyC P .any ops Q (condT m S T) rest.length (l.setIfInBounds j true) a' w') a w from fun X hX => ?_) _ (fun x hx => ⟨.inl hm1, hx⟩)
    unfold wpOp
    rw [ho]
    dsimp only
    split
    · next hw =>
      rw [if_pos hw] at h
      exact .inl (Oper.wp_mono (fun a' w' h' => ⟨hX _ h'.1, hnext _ _ h'.2⟩) h)
    · next hw =>
      rw [if_neg hw] at h
      exact ⟨hX _ h.1, hnext _ _ h.2⟩

theorem wpSeqT_sound (tail : List Nat) (hsel : Region.noSelect ops = true) (hQ : ∀ c (a : Act) d v w, Q (.panic c) (a.put d v) w → Q (.panic c) a w) :
    ∀ (ord : List (Nat × Nat)) (l : Array Bool) (S : World → Prop) (a : Act) (w : World), okSeqT ops m tail ord l = true → wpSeqT P ops Q T (pickTail ops tail) (pickT ops ord) S a w → wpAnyC P .any ops Q (condT m S T) (ord.length + tail.length) l a w
  | [], l, S, a, w, hok, h => by
    unfold okSeqT at hok
    cases tail with
    | nil => cases hok
    | cons k rest =>
      simp only [Bool.and_eq_true, beq_iff_eq, decide_eq_true_eq] at hok
      obtain ⟨⟨h1, h2⟩, h3⟩ := hok
      rw [List.length_nil, Nat.zero_add]
      exact wpSeqG_sound (k :: rest) l a w (fun i r e => .inl (by cases e; exact h1)) h2 h3 h
  | (i, 1) :: rest, l, S, a, w, hok, h => by
    simp only [okSeqT, Bool.and_eq_true, bne_iff_ne, Bool.not_eq_true'] at hok
    obtain ⟨⟨⟨⟨⟨⟨h1, hw⟩, h0⟩, hne⟩, h2⟩, h3⟩, h4⟩ := hok
    obtain ⟨o, ho⟩ := Option.isSome_iff_exists.1 h1
    have hg : ops.getD i default = o := by simp [Array.getD_eq_getD_getElem?, ho]
    simp only [pickT, wpSeqT, hg] at h
    obtain ⟨v, hy, ⟨hS, hT⟩, h⟩ := h
    rw [List.length_cons, Nat.add_right_comm]
    refine wpAnyC_first (Y := S) (Inv := fun l => l.getD m false = false) ho (Region.noSelect_spec hsel) (fun c a w => hQ c a _ _ w) (fun l w hI hC => hC.1.resolve_left (by rw [getD_set_other hne, hI]; decide))
      (fun l w hI hC => ⟨hC.1.imp (fun h => by rw [getD_set_other hne] at h; exact h) id, hC.2⟩) (fun l j hI hr hj _ => ?_) _ l a w h0 (by simpa using h3) hy ⟨.inr hS, hT⟩ (Region.free_spec ho h2) (wpSeqT_sound tail hsel hQ rest _ S _ w h4 h)
    have hjm : j ≠ m := fun e => not_ready_of_waits hw hr (e ▸ hj)
    show (l.setIfInBounds j true).getD m false = false
    rw [getD_set_other hjm]
    exact hI
  | (i, 2) :: rest, l, S, a, w, hok, h => by
    simp only [okSeqT, Bool.and_eq_true, bne_iff_ne] at hok
    obtain ⟨⟨⟨⟨h1, hne⟩, h2⟩, h3⟩, h4⟩ := hok
    obtain ⟨o, ho⟩ := Option.isSome_iff_exists.1 h1
    have hg : ops.getD i default = o := by simp [Array.getD_eq_getD_getElem?, ho]
    simp only [pickT, wpSeqT, hg] at h
    obtain ⟨v, hy, ⟨hS, hT⟩, h⟩ := h
    rw [List.length_cons, Nat.add_right_comm]
    exact wpAnyC_first (Y := T) (Inv := fun _ => True) ho (Region.noSelect_spec hsel) (fun c a w => hQ c a _ _ w) (fun l w _ hC => hC.2) (fun l w _ hC => ⟨hC.1.imp (fun h => by rw [getD_set_other hne] at h; exact h) id, hC.2⟩) (fun _ _ _ _ _ _ => trivial)
      _ l a w trivial (by simpa using h3) hy ⟨.inr hS, hT⟩ (Region.free_spec ho h2) (wpSeqT_sound tail hsel hQ rest _ S _ w h4 h)
  | (i, 0) :: rest, l, S, a, w, hok, h => by
    simp only [okSeqT, Bool.and_eq_true, beq_iff_eq] at hok
    obtain ⟨⟨h1, h2⟩, h4⟩ := hok
    obtain ⟨o, ho⟩ := Option.isSome_iff_exists.1 h1
    have hg : ops.getD i default = o := by simp [Array.getD_eq_getD_getElem?, ho]
    rw [List.length_cons, Nat.add_right_comm]
    refine ⟨fun e => (by rw [h2] at e; cases e), fun j hj => ?_⟩
    rw [h2] at hj
    obtain rfl : j = i := by simpa using hj
    simp only [pickT, wpSeqT, hg] at h
    refine (show ∀ X : World → Prop, (∀ x, S x ∧ T x → X x) → wpOp P ops Q j (fun a' w' => X w' ∧ wpAnyC P .any ops Q (condT m S T) (rest.length + tail.length) (l.setIfInBounds j true) a' w') a w from fun X hX => ?_) _ (fun x hx => ⟨.inr hx.1, hx.2⟩)
    unfold wpOp
    rw [ho]
    dsimp only
    split
    · next hw =>
      rw [if_pos hw] at h
      refine .inl (Oper.wp_mono ?_ h)
      rintro a' w' ⟨S', hS, hw, h'⟩
      exact ⟨hX _ ⟨hS _ hw.1, hw.2⟩, wpAnyC_mono (fun l x hx => ⟨hx.1.imp id (hS _), hx.2⟩) _ _ _ _ (wpSeqT_sound tail hsel hQ rest _ S' a' w' h4 h')⟩
    · next hw =>
      rw [if_neg hw] at h
      exact ⟨hX _ h.1, wpSeqT_sound tail hsel hQ rest _ S _ w h4 h.2⟩
  | (i, k + 3) :: rest, l, S, a, w, hok, h => by
    simp only [okSeqT, Bool.and_eq_true, beq_iff_eq] at hok
    obtain ⟨⟨h1, h2⟩, h4⟩ := hok
    obtain ⟨o, ho⟩ := Option.isSome_iff_exists.1 h1
    have hg : ops.getD i default = o := by simp [Array.getD_eq_getD_getElem?, ho]
    rw [List.length_cons, Nat.add_right_comm]
    refine ⟨fun e => (by rw [h2] at e; cases e), fun j hj => ?_⟩
    rw [h2] at hj
    obtain rfl : j = i := by simpa using hj
    simp only [pickT, wpSeqT, hg] at h
    refine (show ∀ X : World → Prop, (∀ x, S x ∧ T x → X x) → wpOp P ops Q j (fun a' w' => X w' ∧ wpAnyC P .any ops Q (condT m S T) (rest.length + tail.length) (l.setIfInBounds j true) a' w') a w from fun X hX => ?_) _ (fun x hx => ⟨.inr hx.1, hx.2⟩)
    unfold wpOp
    rw [ho]
    dsimp only
    split
    · next hw =>
      rw [if_pos hw] at h
      refine .inl (Oper.wp_mono ?_ h)
      rintro a' w' ⟨S', hS, hw, h'⟩
      exact ⟨hX _ ⟨hS _ hw.1, hw.2⟩, wpAnyC_mono (fun l x hx => ⟨hx.1.imp id (hS _), hx.2⟩) _ _ _ _ (wpSeqT_sound tail hsel hQ rest _ S' a' w' h4 h')⟩
    · next hw =>
      rw [if_neg hw] at h
      exact ⟨hX _ h.1, wpSeqT_sound tail hsel hQ rest _ S _ w h4 h.2⟩

def okRegionT (ops : Array Oper) (m : Nat) (ord : List (Nat × Nat)) (tail : List Nat) : Bool := okSeqT ops m tail ord (Array.replicate ops.size false) && Region.noSelect ops && ord.length + tail.length == ops.size

/-- Any order, out of the one that is walked. -/
theorem any_two {a : Act} {w : World} (m : Nat) (ord : List (Nat × Nat)) (tail : List Nat) (S T : World → Prop) (hok : okRegionT ops m ord tail = true)
    (hQ : ∀ c (a : Act) (i : Nat) v w, Q (.panic c) (a.put (some i) v) w → Q (.panic c) a w) (h : wpSeqT P ops Q T (pickTail ops tail) (pickT ops ord) S a w.drew) : wpAny P .any ops Q ops.size (Array.replicate ops.size false) a w.drew := by
  simp only [okRegionT, Bool.and_eq_true, beq_iff_eq] at hok
  obtain ⟨⟨h1, h2⟩, h3⟩ := hok
  have hQ' : ∀ c (a : Act) d v w, Q (.panic c) (a.put d v) w → Q (.panic c) a w := fun c a d v w h => by
    cases d with
    | none => exact h
    | some i => exact hQ c a i v w h
  have := wpSeqT_sound tail h2 hQ' ord _ S a _ h1 h
  rw [h3] at this
  exact wpAny_of_C _ _ _ _ this

theorem wp_region_two {id : Nat} {a : Act} {w : World} (m : Nat) (ord : List (Nat × Nat)) (tail : List Nat) (S T : World → Prop) (hm : P.follows .mixedOrders = true) (hok : okRegionT ops m ord tail = true)
    (hQ : ∀ c (a : Act) (i : Nat) v w, Q (.panic c) (a.put (some i) v) w → Q (.panic c) a w) (h : wpSeqT P ops Q T (pickTail ops tail) (pickT ops ord) S a w.drew) : (Code.region id ops true).wp P Q a w :=
  wp_region_any hm (any_two m ord tail S T hok hQ h)

variable {rest : List (Oper × Nat)} {tail : List Oper} {a : Act} {w : World} {o : Oper}

theorem wpSeqT_runS (hw : Region.wanted o (yielded ops a.tmps) = true) (hS : S w ∧ T w)
    (h : ∀ K : Act → Prop, (∀ a, wpSeqT P ops Q T tail rest S a w → K a) → ∃ v, (∀ w', S w' → (execOp a.eval o).run P w' = .ok (.value v) w') ∧ K (a.put o.dst v)) : wpSeqT P ops Q T tail ((o, 1) :: rest) S a w := by
  obtain ⟨v, hv, hk⟩ := h _ fun _ h => h
  unfold wpSeqT
  exact ⟨v, .inl ⟨hw, hv⟩, hS, hk⟩

theorem wpSeqT_runT (hw : Region.wanted o (yielded ops a.tmps) = true) (hS : S w ∧ T w)
    (h : ∀ K : Act → Prop, (∀ a, wpSeqT P ops Q T tail rest S a w → K a) → ∃ v, (∀ w', T w' → (execOp a.eval o).run P w' = .ok (.value v) w') ∧ K (a.put o.dst v)) : wpSeqT P ops Q T tail ((o, 2) :: rest) S a w := by
  obtain ⟨v, hv, hk⟩ := h _ fun _ h => h
  unfold wpSeqT
  exact ⟨v, .inl ⟨hw, hv⟩, hS, hk⟩

theorem wpSeqT_act (hw : Region.wanted o (yielded ops a.tmps) = true)
    (h : ∀ K : Act → World → Prop, (∀ a' w' (S' : World → Prop), (∀ x, S' x → S x) → S' w' → T w' → wpSeqT P ops Q T tail rest S' a' w' → K a' w') → o.wp P a w K Q) : wpSeqT P ops Q T tail ((o, 0) :: rest) S a w := by
  show (if Region.wanted o (yielded ops a.tmps) then o.wp P a w (fun a' w' => ∃ S' : World → Prop, (∀ x, S' x → S x) ∧ (S' w' ∧ T w') ∧ wpSeqT P ops Q T tail rest S' a' w') Q
      else (S w ∧ T w) ∧ wpSeqT P ops Q T tail rest S (a.put o.dst undef) w)
  rw [if_pos hw]
  exact h _ fun a' w' S' h1 h2 h2' h3 => ⟨S', h1, ⟨h2, h2'⟩, h3⟩

theorem wpSeqT_tail (h : wpSeqG P ops Q T tail a w) : wpSeqT P ops Q T tail [] S a w := h

theorem wpSeqG_act {tail : List Oper} (hw : Region.wanted o (yielded ops a.tmps) = true)
    (h : ∀ K : Act → World → Prop, (∀ a' w', T w' → wpSeqG P ops Q T tail a' w' → K a' w') → o.wp P a w K Q) : wpSeqG P ops Q T (o :: tail) a w := by
  unfold wpSeqG
  rw [if_pos hw]
  exact h _ fun a' w' h1 h2 => ⟨h1, h2⟩

theorem wpSeqG_end (h : Q .normal a w) : wpSeqG P ops Q T [] a w := h
end
#print axioms wp_region_two
end Go.Proofs.YtlfmkiclaijokaaGreatDoor
