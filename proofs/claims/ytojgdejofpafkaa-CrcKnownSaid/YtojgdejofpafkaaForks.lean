/- A region of which, again and again, either of two operations may come first: a tree of orders. -/
import Derived.Test.YtojgdejofpafkaaFork
namespace Go.Proofs.Ytojgdejofpafkaa

inductive OTree where
  | fin (ord : List (Nat × Bool))
  | fork (ord : List Nat) (i j : Nat) (ti tj : OTree)

section
variable {P : Program} {ops : Array Oper} {Q : Exit → Act → World → Prop}

def OTree.size : OTree → Nat
  | fin ord => ord.length
  | fork ord _ _ ti _ => ti.size + 1 + ord.length

def okTree (ops : Array Oper) : OTree → Array Bool → Bool
  | .fin ord, l => okSeq ops ord l
  | .fork ord i j ti tj, l => okTakes ops ord l && (Region.ready .any ops (behindTakes ord l) == [i, j]) && (ops[i]?).isSome && (ops[j]?).isSome &&
      okTree ops ti ((behindTakes ord l).setIfInBounds i true) && okTree ops tj ((behindTakes ord l).setIfInBounds j true) && (ti.size == tj.size)

/-- One operation that changes the world, and what follows. -/
def wpAct (P : Program) (ops : Array Oper) (Q : Exit → Act → World → Prop) (o : Oper) (T : (World → Prop) → Act → World → Prop) (S : World → Prop) (a : Act) (w : World) : Prop :=
  if Region.wanted o (yielded ops a.tmps) then o.wp P a w (fun a' w' => ∃ S' : World → Prop, (∀ x, S' x → S x) ∧ S' w' ∧ T S' a' w') Q else S w ∧ T S (a.put o.dst undef) w

def wpTree (P : Program) (ops : Array Oper) (Q : Exit → Act → World → Prop) : OTree → (World → Prop) → Act → World → Prop
  | .fin ord, S, a, w => wpSeq P ops Q (pickOps ops ord) S a w
  | .fork ord i j ti tj, S, a, w => wpSeq P ops (fun _ a w => wpAct P ops Q (ops.getD i default) (wpTree P ops Q ti) S a w ∧ wpAct P ops Q (ops.getD j default) (wpTree P ops Q tj) S a w) (pickOps ops (ord.map fun i => (i, true))) S a w

theorem wpAct_run {o : Oper} {T : (World → Prop) → Act → World → Prop} {S : World → Prop} {a : Act} {w : World} (hw : Region.wanted o (yielded ops a.tmps) = true)
    (h : ∀ K : Act → World → Prop, (∀ a' w' (S' : World → Prop), (∀ x, S' x → S x) → S' w' → T S' a' w' → K a' w') → o.wp P a w K Q) : wpAct P ops Q o T S a w := by
  unfold wpAct
  rw [if_pos hw]
  exact h _ fun a' w' S' h1 h2 h3 => ⟨S', h1, h2, h3⟩

theorem tree_one {i : Nat} {t : OTree} {l : Array Bool} {S : World → Prop} {a : Act} {w : World} (h1 : (ops[i]?).isSome = true)
    (hT : ∀ S a w, wpTree P ops Q t S a w → wpAnyH P .any ops Q S t.size (l.setIfInBounds i true) a w) (h : wpAct P ops Q (ops.getD i default) (wpTree P ops Q t) S a w) :
    wpOp P ops Q i (fun a' w' => S w' ∧ wpAnyH P .any ops Q S t.size (l.setIfInBounds i true) a' w') a w := by
  obtain ⟨o, ho⟩ := Option.isSome_iff_exists.1 h1
  have hg : ops.getD i default = o := by simp [Array.getD_eq_getD_getElem?, ho]
  rw [hg] at h
  unfold wpAct at h
  unfold wpOp
  rw [ho]
  dsimp only
  split
  · next hw =>
    rw [if_pos hw] at h
    refine .inl (Oper.wp_mono ?_ h)
    rintro a' w' ⟨S', hS, hw, h'⟩
    exact ⟨hS _ hw, wpAnyH_mono hS _ _ _ _ (hT S' a' w' h')⟩
  · next hw =>
    rw [if_neg hw] at h
    exact ⟨h.1, hT S _ w h.2⟩

theorem wpTree_sound (hsel : Region.noSelect ops = true) (hQ : ∀ c (a : Act) d v w, Q (.panic c) (a.put d v) w → Q (.panic c) a w) :
    ∀ (t : OTree) (l : Array Bool) (S : World → Prop) (a : Act) (w : World), okTree ops t l = true → wpTree P ops Q t S a w → wpAnyH P .any ops Q S t.size l a w
  | .fin ord, l, S, a, w, hok, h => wpSeq_sound hsel hQ ord l S a w hok h
  | .fork ord i j ti tj, l, S, a, w, hok, h => by
    simp only [okTree, Bool.and_eq_true, beq_iff_eq] at hok
    obtain ⟨⟨⟨⟨⟨⟨h1, h3⟩, h4⟩, h5⟩, h6⟩, h7⟩, h8⟩ := hok
    refine takes_sound (fuel := ti.size + 1) hsel hQ ord l a w h1 (fun a w hT => ?_) h
    refine wpAnyH_all h3 (by simp) fun k hk => ?_
    rcases List.mem_cons.1 hk with rfl | hk
    · exact tree_one h4 (fun S a w => wpTree_sound hsel hQ ti _ S a w h6) hT.1
    · obtain rfl : k = j := by simpa using hk
      rw [h8]
      exact tree_one h5 (fun S a w => wpTree_sound hsel hQ tj _ S a w h7) hT.2

def okForks (ops : Array Oper) (t : OTree) : Bool := okTree ops t (Array.replicate ops.size false) && Region.noSelect ops && (t.size == ops.size)

theorem wp_region_forks {id : Nat} {a : Act} {w : World} (t : OTree) (S : World → Prop) (hm : P.follows .mixedOrders = true) (hok : okForks ops t = true)
    (hQ : ∀ c (a : Act) (i : Nat) v w, Q (.panic c) (a.put (some i) v) w → Q (.panic c) a w) (h : wpTree P ops Q t S a w.drew) : (Code.region id ops true).wp P Q a w := by
  simp only [okForks, Bool.and_eq_true, beq_iff_eq] at hok
  obtain ⟨⟨h1, h2⟩, h3⟩ := hok
  refine wp_region_held (S := S) hm ?_
  have hQ' : ∀ c (a : Act) d v w, Q (.panic c) (a.put d v) w → Q (.panic c) a w := fun c a d v w h => by
    cases d with
    | none => exact h
    | some i => exact hQ c a i v w h
  have := wpTree_sound h2 hQ' t _ S a _ h1 h
  rw [h3] at this
  exact this
end
end Go.Proofs.Ytojgdejofpafkaa
