/- Which errors a disk's calls answer: plain laws. No program in sight. The document's long division, over a row of bits: plain laws. No program in sight. Rows of files in any order, and those by their names: plain laws. No program in sight. -/
import Derived.Test.YtlfmkiclaijokaaGreatDoorMk3
namespace Go.Proofs.YtlfmkiclaijokaaGreatDoor

def okErr (e : Int) : Prop := e = 0 ∨ e = 2 ∨ e = 3 ∨ e = 5 ∨ e = 40 ∨ e = 41

theorem okErr.range {e : Int} (h : okErr e) : -9223372036854775808 ≤ e ∧ e ≤ 9223372036854775807 := by
  unfold okErr at h
  omega

theorem bars_err (d : DiskP) (ns : List Bs) : okErr (barsD d ns) := by
  unfold barsD okErr
  split
  · simp
  · split <;> simp

theorem dries_err (d : DiskP) (a b : Bs) (left : Bs → Bs × Int) (h : ∀ x, okErr (left x).2) : okErr (driesD d a b left).1 := by
  unfold driesD
  split
  · exact bars_err d _
  · split
    · simp [okErr]
    · split
      · exact h _
      · split <;> simp [okErr]

theorem whole_err : ∀ x, okErr (wholeL x).2 := fun _ => .inl rfl
theorem cut_err (n : Int) : ∀ x, okErr (cutL n x).2 := fun _ => by
  unfold cutL
  split <;> simp [okErr]

theorem append_err (d : DiskP) (n b : Bs) : okErr (appendD d n b).1 := by
  have h : okErr (appE d n b) := by
    unfold appE
    split
    · exact bars_err d _
    · split
      · simp [okErr]
      · split <;> simp [okErr]
  unfold appendD
  split
  · exact h
  · dsimp only
    split <;> simp [okErr]

theorem remove_err (d : DiskP) (n : Bs) : okErr (removeD d n).1 := by
  unfold removeD
  split
  · exact bars_err d _
  · split
    · split <;> simp [okErr]
    · simp [okErr]

theorem nameW_len (g : Nat) : (nameW g).length ≤ 24 := by
  have : ∀ n g, (decF n g).length ≤ n := fun n => by
    induction n with
    | zero => intro g; exact Nat.le_refl _
    | succ n ih =>
      intro g
      unfold decF
      split
      · simp
      · rw [List.length_append]
        have := ih (g / 10)
        simp
        omega
  unfold nameW
  rw [List.length_append]
  have := this 20 g
  show 4 + _ ≤ 24
  omega
end Go.Proofs.YtlfmkiclaijokaaGreatDoor

namespace Go.Proofs.YtlfmkiclaijokaaGreatDoor

/-- The divisor's bits, from x^32 down. -/
def dAt (k : Nat) : Bool := decide (k = 0) || (decide (k ≤ 32) && poly.getLsbD (32 - k))

/-- The row behind the k first of a round's steps. -/
def flipN (R : List Bool) (i : Nat) : Nat → List Bool
  | 0 => R
  | k + 1 => if k ≠ 0 ∧ dAt k = true then (flipN R i k).set (i + k) (!(flipN R i k).getD (i + k) false) else flipN R i k

theorem flipN_length (R : List Bool) (i : Nat) : ∀ k, (flipN R i k).length = R.length
  | 0 => rfl
  | k + 1 => by
    unfold flipN
    split
    · rw [List.length_set, flipN_length R i k]
    · exact flipN_length R i k

theorem flipN_get (R : List Bool) (i : Nat) : ∀ k j, (flipN R i k).getD j false = if i < j ∧ j < i + k ∧ j < R.length then (R.getD j false ^^ dAt (j - i)) else R.getD j false
  | 0, j => by rw [if_neg (by omega)]; rfl
  | k + 1, j => by
    have ih := flipN_get R i k
    have hl := flipN_length R i k
    unfold flipN
    split
    · next h =>
      by_cases hj : j = i + k
      · subst hj
        by_cases hlt : i + k < R.length
        · rw [List.getD_eq_getElem?_getD, List.getElem?_set_self (by omega), Option.getD_some, ih, if_neg (by omega), if_pos (by omega)]
          have : i + k - i = k := by omega
          rw [this, h.2, Bool.xor_true]
        · rw [List.set_eq_of_length_le (by omega), ih, if_neg (by omega), if_neg (by omega)]
      · rw [List.getD_eq_getElem?_getD, List.getElem?_set_ne (by omega), ← List.getD_eq_getElem?_getD, ih]
        by_cases c : i < j ∧ j < i + k ∧ j < R.length
        · rw [if_pos c, if_pos (by omega)]
        · rw [if_neg c, if_neg (by omega)]
    · next h =>
      rw [ih]
      by_cases c : i < j ∧ j < i + k ∧ j < R.length
      · rw [if_pos c, if_pos (by omega)]
      · rw [if_neg c]
        by_cases hj : i < j ∧ j < i + (k + 1) ∧ j < R.length
        · have : j - i = k := by omega
          rw [if_pos hj, this]
          have hk : dAt k = false := by
            rcases hd : dAt k with _ | _
            · rfl
            · exact absurd ⟨by omega, hd⟩ h
          rw [hk, Bool.xor_false]
        · rw [if_neg hj]

/-- The row behind i rounds. -/
def restR (R : List Bool) : Nat → List Bool
  | 0 => R
  | i + 1 => if (restR R i).getD i false then flipN (restR R i) i 33 else restR R i

theorem restR_length (R : List Bool) : ∀ i, (restR R i).length = R.length
  | 0 => rfl
  | i + 1 => by
    unfold restR
    split
    · rw [flipN_length, restR_length R i]
    · exact restR_length R i

theorem restR_far (R : List Bool) : ∀ i j, i + 32 ≤ j → (restR R i).getD j false = R.getD j false
  | 0, _, _ => rfl
  | i + 1, j, h => by
    unfold restR
    split
    · rw [flipN_get, if_neg (by omega), restR_far R i j (by omega)]
    · exact restR_far R i j (by omega)

def bitB (b : Bool) : BitVec 32 := if b then 1#32 else 0#32

/-- A row of n bits from the i-th on, as a number. -/
def win (f : Nat → Bool) (i : Nat) : Nat → BitVec 32
  | 0 => 0#32
  | n + 1 => (win f i n <<< 1) ^^^ bitB (f (i + n))

theorem win_congr {f g : Nat → Bool} {i k : Nat} : ∀ n, (∀ j, j < n → f (i + j) = g (k + j)) → win f i n = win g k n
  | 0, _ => rfl
  | n + 1, h => by
    unfold win
    rw [win_congr n (fun j hj => h j (by omega)), h n (by omega)]

theorem bitB_xor (a b : Bool) : bitB (a ^^ b) = bitB a ^^^ bitB b := by cases a <;> cases b <;> rfl

theorem win_xor (f g : Nat → Bool) (i : Nat) : ∀ n, win (fun j => f j ^^ g j) i n = win f i n ^^^ win g i n
  | 0 => by simp [win]
  | n + 1 => by
    unfold win
    rw [win_xor f g i n, BitVec.shiftLeft_xor_distrib, bitB_xor]
    ac_rfl

theorem bitB_get (b : Bool) (k : Nat) : (bitB b).getLsbD k = (decide (k = 0) && b) := by
  cases b
  · simp [bitB]
  · simp only [bitB, if_true, Bool.and_true]
    by_cases hk : k = 0
    · subst hk; rfl
    · have e : (1#32 : BitVec 32) = BitVec.twoPow 32 0 := by decide
      rw [e, BitVec.getLsbD_twoPow]
      simp [hk]
      intro _
      omega

theorem win_get (f : Nat → Bool) (i : Nat) : ∀ n k, k < 32 → (win f i n).getLsbD k = (decide (k < n) && f (i + (n - 1 - k)))
  | 0, k, _ => by simp [win]
  | n + 1, k, hk => by
    unfold win
    rw [BitVec.getLsbD_xor, BitVec.getLsbD_shiftLeft, bitB_get]
    by_cases h0 : k = 0
    · subst h0
      simp
    · have : k - 1 < 32 := by omega
      rw [win_get f i n (k - 1) this]
      have e : n - 1 - (k - 1) = n + 1 - 1 - k := by omega
      rw [e]
      have d : decide (k < n + 1) = decide (k - 1 < n) := by
        rw [decide_eq_decide]; omega
      rw [d]
      simp [h0, hk]

/-- The window moves on by one. -/
theorem win_next (f : Nat → Bool) (i : Nat) : win f (i + 1) 32 = (win f i 32 <<< 1) ^^^ bitB (f (i + 32)) := by
  refine BitVec.eq_of_getLsbD_eq fun k hk => ?_
  rw [win_get _ _ _ _ hk, BitVec.getLsbD_xor, BitVec.getLsbD_shiftLeft, bitB_get]
  by_cases h0 : k = 0
  · subst h0
    simp
  · have h1 : k - 1 < 32 := by omega
    rw [win_get _ _ _ _ h1]
    have e : i + 1 + (32 - 1 - k) = i + (32 - 1 - (k - 1)) := by omega
    rw [e]
    simp [h0, hk, h1]

theorem win_top (f : Nat → Bool) (i : Nat) : (win f i 32).getLsbD 31 = f i := by
  rw [win_get _ _ _ _ (by omega)]
  simp

theorem win_div : win (fun j => dAt j) 1 32 = poly := by decide +kernel

/-- A round: the window behind it. -/
theorem win_rest (R : List Bool) (i : Nat) (h : i + 33 ≤ R.length) :
    win (fun j => (restR R (i + 1)).getD j false) (i + 1) 32 = onB (win (fun j => (restR R i).getD j false) i 32) ^^^ bitB (R.getD (i + 32) false) := by
  have hl := restR_length R i
  have hfar := restR_far R i (i + 32) (Nat.le_refl _)
  have hn := win_next (fun j => (restR R i).getD j false) i
  have ht := win_top (fun j => (restR R i).getD j false) i
  simp only [hfar] at hn
  have er : restR R (i + 1) = if (restR R i).getD i false then flipN (restR R i) i 33 else restR R i := rfl
  unfold onB
  rw [ht, er]
  by_cases hb : (restR R i).getD i false = true
  · rw [if_pos hb, if_pos hb]
    have e : win (fun j => (flipN (restR R i) i 33).getD j false) (i + 1) 32 = win (fun j => (restR R i).getD j false ^^ dAt (j - i)) (i + 1) 32 := by
      refine win_congr 32 fun j hj => ?_
      rw [flipN_get, if_pos (by omega)]
    rw [e, win_xor, hn]
    have e2 : win (fun j => dAt (j - i)) (i + 1) 32 = poly := by
      rw [← win_div]
      refine win_congr 32 fun j _ => ?_
      have : i + 1 + j - i = 1 + j := by omega
      rw [this]
    rw [e2]
    ac_rfl
  · rw [if_neg hb, if_neg hb, hn, BitVec.xor_zero]

/-- A bit more. -/
def bitstep (r : BitVec 32) (b : Bool) : BitVec 32 := onB (r ^^^ if b then topB else 0#32)

/-- THE DIVISION: the window is the rest so far, and the bits to come. -/
theorem win_all (R M : List Bool) (hR : R.length = M.length) (hf : ∀ j, R.getD j false = (M.getD j false ^^ decide (j < 32))) :
    ∀ i, i + 32 ≤ R.length → win (fun j => (restR R i).getD j false) i 32 = (M.take i).foldl bitstep (~~~ 0#32) ^^^ win (fun j => M.getD j false) i 32
  | 0, h => by
    have e : win (fun j => (restR R 0).getD j false) 0 32 = win (fun j => M.getD j false ^^ decide (j < 32)) 0 32 := win_congr 32 fun j _ => hf _
    rw [e, win_xor]
    have e2 : win (fun j => decide (j < 32)) 0 32 = ~~~ 0#32 := by decide +kernel
    rw [e2]
    exact BitVec.xor_comm _ _
  | i + 1, h => by
    have ih := win_all R M hR hf i (by omega)
    have hn := win_next (fun j => M.getD j false) i
    have ht := win_top (fun j => M.getD j false) i
    have hlt : i < M.length := by omega
    rw [win_rest R i (by omega), ih]
    have e1 : R.getD (i + 32) false = M.getD (i + 32) false := by rw [hf, decide_eq_false (by omega), Bool.xor_false]
    rw [e1, hn, List.take_succ_eq_append_getElem hlt, List.foldl_append]
    have e2 : M.getD i false = M[i] := by simp [List.getD_eq_getElem?_getD, hlt]
    simp only [e2] at ht
    show _ = bitstep ((M.take i).foldl bitstep (~~~ 0#32)) M[i] ^^^ _
    generalize (M.take i).foldl bitstep (~~~ 0#32) = r at ih ⊢
    generalize win (fun j => M.getD j false) i 32 = W at ih ht ⊢
    unfold bitstep
    rw [← ht]
    cases hW : W.getLsbD 31 with
    | false =>
      have e3 : onB W = W <<< 1 := by unfold onB; rw [hW]; simp
      simp only [if_false, BitVec.xor_zero, Bool.false_eq_true]
      rw [on_xor, e3]
      ac_rfl
    | true =>
      have e3 : onB W = W <<< 1 ^^^ poly := by unfold onB; rw [hW]; simp
      have e4 : onB topB = poly := by decide
      simp only [if_true]
      rw [on_xor, on_xor, e3, e4]
      ac_rfl

/-- The bits of a byte. -/
def bits8 (c : UInt8) : List Bool := (List.range 8).map fun k => c.toNat.testBit (7 - k)
def bitsB (xs : List UInt8) : List Bool := xs.flatMap bits8

theorem bits8_zero : ∀ c : Fin 256, ((List.range 8).map fun k => c.val.testBit (7 - k)).foldl bitstep 0#32 = on8 (BitVec.ofNat 32 c.val <<< 24) := by decide +kernel

theorem bitstep_xor (r s : BitVec 32) (b : Bool) : bitstep (r ^^^ s) b = onB r ^^^ bitstep s b := by
  unfold bitstep
  rw [BitVec.xor_assoc, on_xor]

theorem bits8_step (r : BitVec 32) (c : UInt8) : (bits8 c).foldl bitstep r = stepB r c := by
  have h := bits8_zero ⟨c.toNat, c.toNat_lt⟩
  dsimp only at h
  have e : r = r ^^^ 0#32 := by simp
  unfold stepB headB
  rw [on8_xor, ← h]
  unfold bits8
  conv => lhs; rw [e]
  generalize (0#32 : BitVec 32) = z
  simp only [List.range_succ, List.range_zero, List.nil_append, List.cons_append, List.map_cons, List.map_nil, List.foldl_cons, List.foldl_nil, bitstep_xor]
  rfl

theorem bitsB_fold (xs : List UInt8) : ∀ r, (bitsB xs).foldl bitstep r = behindB r xs := by
  induction xs with
  | nil => exact fun _ => rfl
  | cons c xs ih =>
    intro r
    show (bits8 c ++ bitsB xs).foldl bitstep r = _
    rw [List.foldl_append, bits8_step, ih]
    rfl

theorem bitsB_length (xs : List UInt8) : (bitsB xs).length = 8 * xs.length := by
  induction xs with
  | nil => rfl
  | cons c xs ih =>
    show (bits8 c ++ bitsB xs).length = _
    rw [List.length_append, ih, List.length_cons]
    have : (bits8 c).length = 8 := by simp [bits8]
    omega

/-- The row that is divided: the first 32 bits turned. -/
def rowB (xs : List UInt8) : List Bool := ((bitsB xs ++ List.replicate 32 false).zipIdx).map fun x => x.1 ^^ decide (x.2 < 32)

theorem rowB_length (xs : List UInt8) : (rowB xs).length = 8 * xs.length + 32 := by
  unfold rowB
  simp [bitsB_length]

theorem rowB_get (xs : List UInt8) (j : Nat) : (rowB xs).getD j false = ((bitsB xs ++ List.replicate 32 false).getD j false ^^ decide (j < 32)) := by
  unfold rowB
  rw [List.getD_eq_getElem?_getD, List.getD_eq_getElem?_getD, List.getElem?_map, List.getElem?_zipIdx]
  rcases h : (bitsB xs ++ List.replicate 32 false)[j]? with _ | b
  · have : 32 ≤ j := by
      have := List.getElem?_eq_none_iff.1 h
      simp at this
      omega
    simp
    omega
  · simp

/-- THE SUM, by the division. -/
theorem sum_rest (xs : List UInt8) : ~~~ win (fun j => (restR (rowB xs) (8 * xs.length)).getD j false) (8 * xs.length) 32 = sumB xs := by
  have hb := bitsB_length xs
  have h := win_all (rowB xs) (bitsB xs ++ List.replicate 32 false) (by simp [rowB_length, hb]) (rowB_get xs) (8 * xs.length) (by rw [rowB_length]; omega)
  rw [h]
  have e1 : (bitsB xs ++ List.replicate 32 false).take (8 * xs.length) = bitsB xs := by
    rw [← hb]; exact List.take_left
  have e2 : win (fun j => (bitsB xs ++ List.replicate 32 false).getD j false) (8 * xs.length) 32 = 0#32 := by
    have e3 : win (fun j => (bitsB xs ++ List.replicate 32 false).getD j false) (8 * xs.length) 32 = win (fun _ => false) 0 32 := by
      refine win_congr 32 fun j hj => ?_
      rw [List.getD_eq_getElem?_getD, List.getElem?_append_right (by omega), List.getElem?_replicate]
      split <;> rfl
    rw [e3]
    decide +kernel
  rw [e1, e2, BitVec.xor_zero, bitsB_fold]
  rfl
end Go.Proofs.YtlfmkiclaijokaaGreatDoor

namespace Go.Proofs.YtlfmkiclaijokaaGreatDoor

/-- The names of a row that is sorted are different. -/
theorem SortedF.nodup {fs : List FileP} (h : SortedF fs) : fs.Pairwise fun f g => f.name ≠ g.name :=
  h.imp fun {f g} hl e => by rw [e, ltN_irrefl] at hl; cases hl

theorem nodup_perm {L fs : List FileP} (h : L.Perm fs) (hs : SortedF fs) : L.Pairwise fun f g => f.name ≠ g.name :=
  (h.pairwise_iff (fun {_ _} hne e => hne e.symm)).2 hs.nodup

theorem getF_mem {L : List FileP} (hn : L.Pairwise fun f g => f.name ≠ g.name) {f : FileP} (hf : f ∈ L) : getF L f.name = some f := by
  induction L with
  | nil => cases hf
  | cons g L ih =>
    obtain ⟨h1, h2⟩ := List.pairwise_cons.1 hn
    rw [getF_cons]
    rcases List.mem_cons.1 hf with rfl | hf
    · rw [if_pos rfl]
    · rw [if_neg (h1 f hf)]
      exact ih h2 hf

theorem getF_isNone {L : List FileP} {n : Bs} : getF L n = none ↔ ∀ f ∈ L, f.name ≠ n := by
  unfold getF
  rw [List.find?_eq_none]
  constructor
  · intro h f hf e
    exact h f hf (by simpa using e)
  · intro h f hf e
    exact h f hf (by simpa using e)

theorem getF_perm {L fs : List FileP} (h : L.Perm fs) (hs : SortedF fs) (n : Bs) : getF L n = getF fs n := by
  rcases e : getF fs n with _ | f
  · rw [getF_isNone] at e ⊢
    exact fun f hf => e f (h.mem_iff.1 hf)
  · obtain ⟨rfl, hf⟩ := getF_name e
    exact getF_mem (nodup_perm h hs) (h.mem_iff.2 hf)

/-- From the last one on. -/
def lookL (L : List FileP) (n : Bs) : Option FileP := getF L.reverse n

theorem lookL_perm {L fs : List FileP} (h : L.Perm fs) (hs : SortedF fs) (n : Bs) : lookL L n = getF fs n :=
  getF_perm ((List.reverse_perm L).trans h) hs n

theorem del_perm {L fs : List FileP} (h : L.Perm fs) (n : Bs) : (delF n L).Perm (delF n fs) := h.filter _

theorem delF_cons (g : FileP) (fs : List FileP) (n : Bs) : delF n (g :: fs) = if g.name = n then delF n fs else g :: delF n fs := by
  unfold delF
  rw [List.filter_cons]
  by_cases e : g.name = n <;> simp [e]

theorem delF_none {fs : List FileP} {n : Bs} (h : ∀ f ∈ fs, f.name ≠ n) : delF n fs = fs :=
  List.filter_eq_self.2 fun f hf => by simpa using h f hf

theorem put_perm (f : FileP) : ∀ (fs : List FileP), SortedF fs → (putF f fs).Perm (f :: delF f.name fs)
  | [], _ => by simp [putF, delF]
  | g :: fs, hs => by
    obtain ⟨h1, h2⟩ := List.pairwise_cons.1 hs
    unfold putF
    rw [delF_cons]
    by_cases e : g.name = f.name
    · have hn : ∀ x ∈ fs, x.name ≠ f.name := fun x hx e2 => by
        have := h1 x hx
        rw [e, e2, ltN_irrefl] at this
        cases this
      have hl : ltN g.name f.name = false := by rw [e]; exact ltN_irrefl _
      rw [if_pos e, delF_none hn]
      simp [e, ltN_irrefl]
    · rw [if_neg e]
      cases hl : ltN g.name f.name
      · have hlt : ltN f.name g.name = true := by
          cases h3 : ltN f.name g.name
          · exact absurd (ltN_total _ _ hl h3) e
          · rfl
        have hn : ∀ x ∈ fs, x.name ≠ f.name := fun x hx e2 => by
          have h3 := h1 x hx
          rw [e2] at h3
          rw [ltN_asymm _ _ h3] at hlt
          cases hlt
        rw [delF_none hn]
        simp [e]
      · simp only [if_true, if_neg e]
        exact ((put_perm f fs h2).cons g).trans (List.Perm.swap f g _)

theorem change_perm {L fs : List FileP} (h : L.Perm fs) (hs : SortedF fs) (f : FileP) : (delF f.name L ++ [f]).Perm (putF f fs) :=
  (List.perm_append_comm.trans ((del_perm h f.name).cons f)).trans (put_perm f fs hs).symm

theorem sum_perm {a b : List Nat} (h : a.Perm b) : a.sum = b.sum := by
  induction h with
  | nil => rfl
  | cons x _ ih => rw [List.sum_cons, List.sum_cons, ih]
  | swap x y l => simp only [List.sum_cons]; omega
  | trans _ _ h1 h2 => exact h1.trans h2

theorem used_perm {L fs : List FileP} (h : L.Perm fs) : usedF L = usedF fs := sum_perm (h.map _)

/-- A file among others, by its name (equal ones behind). -/
def insF (f : FileP) : List FileP → List FileP
  | [] => [f]
  | g :: fs => if ltN g.name f.name then g :: insF f fs else f :: g :: fs

def sortL (L : List FileP) : List FileP := L.foldl (fun out f => insF f out) []

theorem insF_at (f : FileP) : ∀ (fs : List FileP), insF f fs = fs.take (posN fs f.name) ++ f :: fs.drop (posN fs f.name)
  | [] => rfl
  | g :: fs => by
    unfold insF
    rw [posN_cons]
    by_cases h : ltN g.name f.name = true
    · rw [if_pos h, if_pos h, List.take_succ_cons, List.drop_succ_cons, insF_at f fs, List.cons_append]
    · rw [if_neg h, if_neg h, List.take_zero, List.drop_zero, List.nil_append]

theorem insF_perm (f : FileP) : ∀ (fs : List FileP), (insF f fs).Perm (f :: fs)
  | [] => List.Perm.refl _
  | g :: fs => by
    unfold insF
    split
    · exact ((insF_perm f fs).cons g).trans (List.Perm.swap f g _)
    · exact List.Perm.refl _

theorem insF_sorted (f : FileP) : ∀ (fs : List FileP), SortedF fs → (∀ g ∈ fs, g.name ≠ f.name) → SortedF (insF f fs)
  | [], _, _ => List.pairwise_singleton _ _
  | g :: fs, hs, hn => by
    obtain ⟨h1, h2⟩ := List.pairwise_cons.1 hs
    unfold insF
    cases hl : ltN g.name f.name
    · have hlt : ltN f.name g.name = true := by
        cases h3 : ltN f.name g.name
        · exact absurd (ltN_total _ _ hl h3) (hn g (List.mem_cons_self ..))
        · rfl
      rw [if_neg (by simp)]
      refine List.pairwise_cons.2 ⟨fun x hx => ?_, hs⟩
      rcases List.mem_cons.1 hx with rfl | hx
      · exact hlt
      · exact ltN_trans _ _ _ hlt (h1 x hx)
    · rw [if_pos rfl]
      refine List.pairwise_cons.2 ⟨fun x hx => ?_, insF_sorted f fs h2 fun x hx => hn x (List.mem_cons_of_mem _ hx)⟩
      rcases List.mem_cons.1 ((insF_perm f fs).mem_iff.1 hx) with rfl | hx
      · exact hl
      · exact h1 x hx

theorem sortL_snoc (L : List FileP) (k : Nat) (f : FileP) (h : L[k]? = some f) : sortL (L.take (k + 1)) = insF f (sortL (L.take k)) := by
  obtain ⟨hk, rfl⟩ := List.getElem?_eq_some_iff.1 h
  unfold sortL
  rw [List.take_succ_eq_append_getElem hk, List.foldl_append]
  rfl

theorem sort_from (L : List FileP) : ∀ (out : List FileP), SortedF out → (L.Pairwise fun f g => f.name ≠ g.name) → (∀ f ∈ L, ∀ g ∈ out, g.name ≠ f.name) →
    SortedF (L.foldl (fun out f => insF f out) out) ∧ (L.foldl (fun out f => insF f out) out).Perm (L ++ out) := by
  induction L with
  | nil => exact fun out h _ _ => ⟨h, List.Perm.refl _⟩
  | cons f L ih =>
    intro out h hn hx
    obtain ⟨h1, h2⟩ := List.pairwise_cons.1 hn
    obtain ⟨q1, q2⟩ := ih (insF f out) (insF_sorted f out h (hx f (List.mem_cons_self ..))) h2 (fun g hg y hy => by
      rcases List.mem_cons.1 ((insF_perm f out).mem_iff.1 hy) with rfl | hy
      · exact h1 g hg
      · exact hx g (List.mem_cons_of_mem _ hg) y hy)
    refine ⟨q1, q2.trans ?_⟩
    exact ((insF_perm f out).append_left L).trans List.perm_middle

theorem sorted_perm_eq : ∀ (a b : List FileP), SortedF a → SortedF b → a.Perm b → a = b := by
  intro a
  induction a with
  | nil => intro b _ _ h; exact (h.nil_eq)
  | cons x a ih =>
    intro b ha hb h
    cases b with
    | nil => exact absurd h.length_eq (by simp)
    | cons y b =>
      obtain ⟨a1, a2⟩ := List.pairwise_cons.1 ha
      obtain ⟨b1, b2⟩ := List.pairwise_cons.1 hb
      have e : x = y := by
        rcases List.mem_cons.1 (h.mem_iff.1 (List.mem_cons_self ..)) with e | hx
        · exact e
        rcases List.mem_cons.1 (h.mem_iff.2 (List.mem_cons_self ..)) with e | hy
        · exact e.symm
        have h1 := a1 y hy
        rw [ltN_asymm _ _ (b1 x hx)] at h1
        cases h1
      subst e
      rw [ih b a2 b2 h.cons_inv]

theorem sortL_perm {L fs : List FileP} (h : L.Perm fs) (hs : SortedF fs) : sortL L = fs := by
  obtain ⟨h1, h2⟩ := sort_from L [] List.Pairwise.nil (nodup_perm h hs) (fun _ _ _ hg => by cases hg)
  rw [List.append_nil] at h2
  exact sorted_perm_eq _ _ h1 hs (h2.trans h)

/-- Files that are not born have no dry bytes. -/
def BornF (fs : List FileP) : Prop := ∀ f ∈ fs, f.born = false → f.dry = []

theorem born_put {fs : List FileP} {f : FileP} (h : BornF fs) (hf : f.born = false → f.dry = []) : BornF (putF f fs) := fun g hg => by
  rcases mem_putF hg with rfl | hg
  · exact hf
  · exact h g hg

theorem born_del {fs : List FileP} (h : BornF fs) (n : Bs) : BornF (delF n fs) := fun g hg => h g (List.mem_filter.1 hg).1

theorem born_on (keep : List Int) (fs : List FileP) (i : Nat) : BornF (onFiles keep i fs) := fun g hg hb => by
  obtain ⟨f, _, j, rfl⟩ := mem_onFiles hg
  simp only [onFile, Bool.or_eq_false_iff, decide_eq_false_iff_not] at hb ⊢
  exact List.eq_nil_of_length_eq_zero (by omega)
end Go.Proofs.YtlfmkiclaijokaaGreatDoor
