/- A range over a function, in the separation logic: what the iterator hands on with each value (A) goes into the round; the loop's own record is a block like another. A region that draws its order, within a round. No program in sight. -/
import Derived.RangeFuncNested
import Derived.RangeFuncBound
import Derived.RangeFuncCalls
import Derived.RangeFuncLeaves
import Derived.OwnWalkIn
import Derived.TacticsInMore
import Derived.LoopNIn
import Derived.LoopIn
import Derived.OrdersIn
import Derived.Test.YtlfmkiclaijokaaGreatDoorMk4
import Derived.Test.YtlfmkiclaijokaaGreatDoorMk1
namespace Go.Proofs.YtlfmkiclaijokaaGreatDoor

section
variable {P : Program} {ops : Array Oper} {Q : Exit → Act → World → Prop} {md : Region.Mode}

/-- What an operation does in a plain frame it does in a round's. -/
theorem oper_round {l n : Nat} {o : Oper} {a : Act} {w : World} {K : Act → World → Prop} (hd : ∀ c, o.op ≠ .defer c) (hrow : ∀ row args w', (execOp a.eval o).run P w ≠ .ok (.row row args) w')
    (h : o.wp P a w K Q) : o.wpIn (Fence.wide.inRound l) n P a w K Q := by
  unfold Oper.wp at h
  unfold Oper.wpIn
  refine ⟨fun _ _ => trivial, ?_⟩
  rw [Fence.inRound_round, Oper.semAt_some l _ _ hd]
  generalize hr : (execOp a.eval o).run P w = r at h
  match r, h with
  | .ok (.value v) w', h => exact h
  | .ok .skip w', h => exact h
  | .ok (.defer d) w', h => exact h
  | .ok (.enter f args) w', h => exact ⟨fun h => (by cases h), CallsIn.inRound l (callsIn_wide.2 h)⟩
  | .ok (.row row args) w', h => exact absurd hr (hrow row args w')
  | .halt (.panic v) w', h => exact h

def noRow (P : Program) (o : Oper) : Prop := (∀ c, o.op ≠ .defer c) ∧ ∀ (a : Act) w row args w', (execOp a.eval o).run P w ≠ .ok (.row row args) w'

theorem value_no_row (s : Sem Value) (w : World) (row : String) (args : Array Value) (w' : World) : ((do let x ← s; pure (Next.value x)) : Sem Next).run P w ≠ .ok (.row row args) w' := by
  rw [Sem.run_bind]
  cases s.run P w <;> simp [Result.andThen]

theorem andThen_no_row (r : Result Value) (row : String) (args : Array Value) (w' : World) : (r.andThen fun a w' => Result.ok (Next.value a) w') ≠ .ok (.row row args) w' := by
  cases r <;> simp [Result.andThen]

theorem unit_no_row (s : Sem Unit) (w : World) (row : String) (args : Array Value) (w' : World) : ((do s; pure Next.skip) : Sem Next).run P w ≠ .ok (.row row args) w' := by
  rw [Sem.run_bind]
  cases s.run P w <;> simp [Result.andThen]

/-- Operations of which this is plain to see. -/
def plainOp : Op → Bool
  | .move _ | .assign _ | .load _ _ | .store _ _ _ | .fieldAddr _ _ _ | .buildSlice _ _ _ | .nilCheck _ => true
  | .call c => match c.callee with
    | .builtin .append | .builtin .len => true
    | _ => false
  | _ => false

theorem noRow_plain {o : Oper} (h : plainOp o.op = true) : noRow P o := by
  refine ⟨fun c e => (by rw [e] at h; cases h), fun a w row args w' => ?_⟩
  unfold execOp
  cases ho : o.op with
  | move x => intro e; cases e
  | assign x => intro e; cases e
  | load t x => exact value_no_row _ _ _ _ _
  | store t x y => exact unit_no_row _ _ _ _ _
  | fieldAddr t x f => exact value_no_row _ _ _ _ _
  | buildSlice t l ps => exact value_no_row _ _ _ _ _
  | nilCheck x =>
    dsimp only
    split
    · intro e; simp [go_sem] at e
    · intro e; simp [go_sem] at e
    · intro e; simp [go_sem] at e
    · split
      · intro e; simp [go_sem] at e
      · intro e
        simp only [Sem.run_bind, Result.andThen] at e
        repeat' split at e
        all_goals first
          | cases e
          | (simp [go_sem] at e)
          | (split at e <;> simp [go_sem] at e)
      · intro e; cases e
    · intro e; cases e
  | call c =>
    rw [ho] at h
    unfold plainOp at h
    obtain ⟨callee, args', types⟩ := c
    dsimp only at h ⊢
    split at h
    · simp only [resolve, Sem.run_bind, Sem.run_pure, Result.andThen_ok, invoke, builtin]
      exact andThen_no_row _ _ _ _
    · simp only [resolve, Sem.run_bind, Sem.run_pure, Result.andThen_ok, invoke, builtin]
      exact andThen_no_row _ _ _ _
    · cases h
  | _ => rw [ho] at h; cases h

theorem wpAny_round {l n : Nat} (hops : ∀ (i : Nat) (o : Oper), ops[i]? = some o → noRow P o) (hL : ¬ LetsOut Q) :
    ∀ (fuel : Nat) (listed : Array Bool) (a : Act) (w : World), wpAny P md ops Q fuel listed a w → wpAnyIn (Fence.wide.inRound l) n P md ops Q fuel listed a w
  | 0, _, _, _, h => h
  | fuel + 1, listed, a, w, h => ⟨h.1, fun i hi => by
      have h2 := h.2 i hi
      unfold wpOp at h2
      unfold wpOpIn
      split
      · next ho => rw [ho] at h2; exact wpAny_round hops hL fuel _ a w h2
      · next o ho =>
        rw [ho] at h2
        dsimp only at h2
        split
        · next hw =>
          rw [if_pos hw] at h2
          obtain ⟨hd, hrow⟩ := hops i o ho
          refine Oper.wpIn_mono (fun a' w' => wpAny_round hops hL fuel _ a' w') (oper_round hd (hrow a w) (h2.resolve_right fun c => hL c.2))
        · next hw =>
          rw [if_neg hw] at h2
          exact ⟨fun _ _ => trivial, wpAny_round hops hL fuel _ _ w h2⟩⟩

theorem region_round {l n id : Nat} {a : Act} {w : World} (hm : P.follows .mixedOrders = true) (hops : ∀ (i : Nat) (o : Oper), ops[i]? = some o → noRow P o) (hL : ¬ LetsOut Q)
    (h : wpAny P .any ops Q ops.size (Array.replicate ops.size false) a w.drew) : (Code.region id ops true).wpIn (Fence.wide.inRound l) n P Q a w :=
  wpIn_region_any hm (wpAny_round hops hL _ _ _ _ h)

/-- As wp_region_two, within a round. -/
theorem round_region_two {l n id : Nat} {a : Act} {w : World} (m : Nat) (ord : List (Nat × Nat)) (tail : List Nat) (S T : World → Prop) (hm : P.follows .mixedOrders = true) (hops : ∀ (i : Nat) (o : Oper), ops[i]? = some o → noRow P o) (hL : ¬ LetsOut Q) (hok : okRegionT ops m ord tail = true)
    (hQ : ∀ c (a : Act) (i : Nat) v w, Q (.panic c) (a.put (some i) v) w → Q (.panic c) a w) (h : wpSeqT P ops Q T (pickTail ops tail) (pickT ops ord) S a w.drew) : (Code.region id ops true).wpIn (Fence.wide.inRound l) n P Q a w :=
  region_round hm hops hL (any_two m ord tail S T hok hQ h)
end

theorem Sat.putObj {u w : World} {F : HProp} {b : Nat} {o : Obj} (o' : Obj) (h : Sat u w (own b o * F)) : Sat u (w.putObj b o') (own b o' * F) :=
  h.upd rfl rfl rfl (World.putObj_heap_same h.lt) fun _ _ e => World.putObj_heap_other e

section
variable {P : Program} {u : World}

/-- THE LAW. The body goes on in every round. -/
theorem range_sat {α : Type} {n : Nat} {g : Operand} {ps : Array Tmp} {assign body : Code} {Q : Exit → Act → World → Prop} {a : Act} {w : World} {gf : Nat} {lb : Array Value}
    (hg : a.eval g = .func (.func gf) #[] lb) (eg : ∀ args w, (callFunc gf args).run P w = .ok (.enter gf args) w) {encs : α → Array Value} (hps : ∀ x, (encs x).size = ps.size)
    (A : α → HProp) (I : List α → HProp) (S : List α → Prop) (G : List α → α → Prop) (a₁ : α → Act)
    (hgen : ∀ (l : Nat) (L : HProp) (W : World), Sat u W (L * I []) →
      (∀ pre x W1, G pre x → Sat u W1 (A x * (L * I pre)) → YieldAt Fence.wide n P l (encs x) W1 fun e W' => e = .returned (.bool true) ∧ Sat u W' (L * I (pre ++ [x]))) →
      CallsIn Fence.wide (n + 1) P gf (#[.func (.yield l) #[] #[]] ++ lb) W fun e W' => (∃ v, e = .returned v) ∧ ∃ xs, S xs ∧ Sat u W' (L * I xs))
    (hassign : ∀ (l : Nat) (x : α) (W : World) (K : Act → World → Prop), K (a₁ x) W →
      assign.wpIn (Fence.wide.inRound l) n P (Exit.then K (fun _ _ _ => False)) { tmps := (ps.zip (encs x)).foldl (fun t (p, v) => t.setIfInBounds p v) a.tmps, defers := [] } W)
    (hbody : ∀ (l : Nat) (L : HProp) (pre : List α) (x : α) (W : World), G pre x → Sat u W (A x * (L * I pre)) →
      body.wpIn (Fence.wide.inRound l) n P (fun e _ W' => match e with | .normal => Sat u W' (L * I (pre ++ [x])) | _ => False) (a₁ x) W)
    (hs : Sat u w (I []))
    (hdone : ∀ (D : Nat) (xs : List α) (W : World), S xs → Sat u W (own D (.deferred (some [])) * I xs) → Q .normal { a with defers := { target := .collected D, args := #[] } :: a.defers } W) :
    (Code.rangeFunc g ps assign body).wp P Q a w := by
  refine (wpIn_wide (n := n + 2)).1 ?_
  refine wpIn_rangeFunc fun fn hfn => ?_
  obtain ⟨rec, hrec⟩ : ∃ rec : LoopState → Loop, rec = fun st => { state := st, pending := none, fn, tmps := a.tmps, params := ps, assign, body, defers := w.heap.size } := ⟨_, rfl⟩
  have h1 := (hs.alloc (.deferred (some []))).alloc (.loop (rec .ready))
  rw [World.size_alloc] at h1
  obtain ⟨W1, hW1⟩ : ∃ W1, (w.alloc (.deferred (some []))).alloc (.loop (rec .ready)) = W1 := ⟨_, rfl⟩
  rw [hW1] at h1
  refine ⟨w.heap.size + 1, [{ target := .collected w.heap.size, args := #[] }], W1, { target := .fn (.func gf) lb, args := #[.func (.yield (w.heap.size + 1)) #[] #[]] }, W1, gf,
    #[.func (.yield (w.heap.size + 1)) #[] #[]] ++ lb, W1, ?_, ?_, fun _ _ => trivial, ?_, fun h => (by cases h), ?_⟩
  · rw [← hW1, hrec]; exact run_enterLoop_outer _ _ _ _ _
  · simp only [resolve, hg]
    simp [go_sem]
  · simp [invoke, go_sem, eg]
  refine (hgen (w.heap.size + 1) (own (w.heap.size + 1) (.loop (rec .ready)) * own w.heap.size (.deferred (some []))) W1 (h1.eq (by ac_rfl)) ?_).mono ?_
  · intro pre x W hG hx
    have hx2 : Sat u W (own (w.heap.size + 1) (.loop (rec .ready)) * (own w.heap.size (.deferred (some [])) * (A x * I pre))) := hx.eq (by ac_rfl)
    have hl := hx2.get
    have hy := run_yield (P := P) (args := encs x) hl (by rw [hrec]; exact hps x)
    rw [hrec] at hy
    refine ⟨fn, _, assign, body, hy, roundIn_of_wpIn trivial (hassign _ x W _ ⟨_, run_beginRound hl (by rw [hrec]), ?_⟩)⟩
    have h3 := hx2.putObj (.loop { rec .ready with state := .busy })
    refine wpIn_mono (hbody _ (own (w.heap.size + 1) (.loop { rec .ready with state := .busy }) * own w.heap.size (.deferred (some []))) pre x _ hG (h3.eq (by ac_rfl))) ?_
    intro e a3 W3 hp
    cases e with
    | normal =>
      have h4 : Sat u W3 (own (w.heap.size + 1) (.loop { rec .ready with state := .busy }) * (own w.heap.size (.deferred (some [])) * I (pre ++ [x]))) := Sat.as hp
      have h5 := h4.putObj (.loop (rec .ready))
      have he := run_endRound (P := P) none h4.get
      refine ⟨_, _, he, rfl, ?_⟩
      have e : ({ ({ rec .ready with state := .busy } : Loop) with state := if (none : Option Code).isNone then .ready else .done, pending := none } : Loop) = rec .ready := by rw [hrec]; rfl
      rw [e]
      exact h5.sa
    | ret => exact hp.elim
    | exit id => exact hp.elim
    | goto t => exact hp.elim
    | panic ch => exact hp.elim
    | outgrown => exact hp.elim
  · rintro e W2 ⟨⟨v, rfl⟩, xs, hS, h6⟩
    have h7 : Sat u W2 (own (w.heap.size + 1) (.loop (rec .ready)) * (own w.heap.size (.deferred (some [])) * I xs)) := h6.as
    have he := run_endLoop (P := P) h7.get (by rw [hrec]; simp)
    refine ⟨none, _, by rw [he, hrec], ?_⟩
    exact hdone _ xs _ hS (h7.putObj _).right
end
#print axioms range_sat
end Go.Proofs.YtlfmkiclaijokaaGreatDoor
