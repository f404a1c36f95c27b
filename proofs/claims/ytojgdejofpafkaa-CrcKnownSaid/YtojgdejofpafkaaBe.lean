/- The bytes of a number, and the number of bytes: plain Lean, no program in sight. -/
namespace Go.Proofs.Ytojgdejofpafkaa

/-- The k bytes of n, the highest first. -/
def be : Nat → Nat → List UInt8
  | 0, _ => []
  | k + 1, n => be k (n / 256) ++ [UInt8.ofNat n]

/-- The number of bytes, the highest first. -/
def num (l : List UInt8) : Nat := l.foldl (fun a c => a * 256 + c.toNat) 0

@[simp] theorem be_length (k n : Nat) : (be k n).length = k := by
  induction k generalizing n with
  | zero => rfl
  | succ k ih => simp [be, ih]

theorem be_add (j k n : Nat) : be (j + k) n = be j (n / 256 ^ k) ++ be k n := by
  induction k generalizing n with
  | zero => simp [be]
  | succ k ih =>
    show be (j + k) (n / 256) ++ [UInt8.ofNat n] = _
    rw [ih, be, List.append_assoc, Nat.div_div_eq_div_mul, Nat.pow_succ, Nat.mul_comm 256]

theorem be_mod (k n : Nat) : be k (n % 256 ^ k) = be k n := by
  induction k generalizing n with
  | zero => rfl
  | succ k ih =>
    have h1 : n % 256 ^ (k + 1) / 256 = n / 256 % 256 ^ k := by
      rw [Nat.pow_succ, Nat.mul_comm, Nat.mod_mul_right_div_self]
    have h2 : n % 256 ^ (k + 1) % 256 = n % 256 := by
      rw [Nat.pow_succ, Nat.mul_comm, Nat.mod_mul_right_mod]
    rw [be, be, h1, ih]
    congr 2
    apply UInt8.toNat_inj.1
    simp [h2]

/-- Put by halves. -/
theorem be_halves (k n : Nat) : be (k + k) n = be k (n / 256 ^ k) ++ be k (n % 256 ^ k) := by rw [be_add, be_mod]

theorem num_snoc (l : List UInt8) (c : UInt8) : num (l ++ [c]) = num l * 256 + c.toNat := by simp [num]

theorem num_append (l m : List UInt8) : num (l ++ m) = num l * 256 ^ m.length + num m := by
  have key : ∀ (m : List UInt8) (a : Nat), m.foldl (fun a c => a * 256 + c.toNat) a = a * 256 ^ m.length + num m := by
    intro m
    induction m with
    | nil => intro a; simp [num]
    | cons c m ih =>
      intro a
      have h := ih (0 * 256 + c.toNat)
      rw [List.foldl_cons, ih]
      show _ = _ + List.foldl (fun a c => a * 256 + c.toNat) 0 (c :: m)
      rw [List.foldl_cons, h]
      simp only [List.length_cons, Nat.pow_succ, Nat.add_mul, Nat.zero_mul, Nat.zero_add, Nat.mul_assoc, Nat.mul_comm 256]
      omega
  show List.foldl _ 0 (l ++ m) = _
  rw [List.foldl_append, key]
  rfl

theorem snoc_ind {α : Type} {p : List α → Prop} (h0 : p []) (h1 : ∀ l c, p l → p (l ++ [c])) (l : List α) : p l := by
  have : ∀ n, ∀ l : List α, l.length = n → p l := by
    intro n
    induction n with
    | zero => intro l hl; rw [List.eq_nil_of_length_eq_zero hl]; exact h0
    | succ n ih =>
      intro l hl
      have hne : l ≠ [] := by intro e; subst e; simp at hl
      rw [← List.dropLast_concat_getLast hne]
      exact h1 _ _ (ih _ (by simp [hl]))
  exact this _ l rfl

theorem num_lt (l : List UInt8) : num l < 256 ^ l.length := by
  refine snoc_ind (p := fun l => num l < 256 ^ l.length) (by simp [num]) (fun l c ih => ?_) l
  rw [num_snoc, List.length_append, List.length_singleton, Nat.pow_succ]
  have := c.toNat_lt
  omega

theorem num_be (k n : Nat) : num (be k n) = n % 256 ^ k := by
  induction k generalizing n with
  | zero => simp [be, num, Nat.mod_one]
  | succ k ih =>
    rw [be, num_snoc, ih, Nat.pow_succ, Nat.mul_comm (256 ^ k) 256, Nat.mod_mul]
    simp
    omega

theorem be_num (l : List UInt8) : be l.length (num l) = l := by
  refine snoc_ind (p := fun l => be l.length (num l) = l) rfl (fun l c ih => ?_) l
  have hc := c.toNat_lt
  rw [List.length_append, List.length_singleton, be, num_snoc]
  have h1 : (num l * 256 + c.toNat) / 256 = num l := by omega
  rw [h1, ih]
  congr 2
  apply UInt8.toNat_inj.1
  simp

end Go.Proofs.Ytojgdejofpafkaa
