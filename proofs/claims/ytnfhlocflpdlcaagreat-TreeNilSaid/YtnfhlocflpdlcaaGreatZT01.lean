/-
  Lemmas for a law's proof, put together from several texts: each part says what it shows, and its conditions.
-/
/-
  Plain laws of a history's bytes: CRC-32 two ways; what is changed within four bytes shows; operations coded and decoded. No conditions of their own; no program in sight.
-/
namespace Go.Proofs.YtnfhlocflpdlcaaGreat.HP

/-- One digit's step. -/
def step (r : Nat) : Nat := if r % 2 = 1 then (r / 2) ^^^ 3988292384 else r / 2
def steps : Nat → Nat → Nat
  | 0, r => r
  | n + 1, r => step (steps n r)
def put (r b : Nat) : Nat := steps 8 (r ^^^ b)
def reg (r : Nat) (l : List Nat) : Nat := l.foldl put r
def sum (l : List Nat) : Nat := 4294967295 - reg 4294967295 l

theorem reg_cons (r b : Nat) (l : List Nat) : reg r (b :: l) = reg (put r b) l := List.foldl_cons ..
theorem xor_eq_zero {x y : Nat} (h : x ^^^ y = 0) : x = y := by
  have h1 : x ^^^ (x ^^^ y) = y := by rw [← Nat.xor_assoc, Nat.xor_self, Nat.zero_xor]
  rw [h, Nat.xor_zero] at h1
  exact h1
theorem xor_mod (x y : Nat) : (x ^^^ y) % 2 = (x % 2 + y % 2) % 2 := by
  have h := Nat.testBit_xor x y 0
  simp only [Nat.testBit_zero] at h
  rcases Nat.mod_two_eq_zero_or_one x with hx | hx <;> rcases Nat.mod_two_eq_zero_or_one y with hy | hy <;> rcases Nat.mod_two_eq_zero_or_one (x ^^^ y) with hz | hz <;> simp_all
theorem xor_div (x y : Nat) : (x ^^^ y) / 2 = (x / 2) ^^^ (y / 2) := by
  apply Nat.eq_of_testBit_eq
  intro i
  rw [Nat.testBit_xor, ← Nat.testBit_succ, ← Nat.testBit_succ, ← Nat.testBit_succ, Nat.testBit_xor]
theorem step_xor (x y : Nat) : step (x ^^^ y) = step x ^^^ step y := by
  unfold step
  rw [xor_mod, xor_div]
  rcases Nat.mod_two_eq_zero_or_one x with hx | hx <;> rcases Nat.mod_two_eq_zero_or_one y with hy | hy <;> simp [hx, hy]
  · rw [Nat.xor_assoc]
  · rw [Nat.xor_assoc, Nat.xor_assoc, Nat.xor_comm 3988292384]
  · rw [Nat.xor_assoc (x / 2), Nat.xor_comm 3988292384, Nat.xor_assoc (y / 2), Nat.xor_self, Nat.xor_zero]
theorem steps_xor (n x y : Nat) : steps n (x ^^^ y) = steps n x ^^^ steps n y := by
  induction n with
  | zero => rfl
  | succ n ih => simp only [steps, ih, step_xor]
theorem steps_add (m n r : Nat) : steps (m + n) r = steps m (steps n r) := by
  induction m with
  | zero => simp [steps]
  | succ m ih => rw [Nat.succ_add, steps, ih, steps]
theorem step_lt {r : Nat} (h : r < 4294967296) : step r < 4294967296 := by
  unfold step
  split
  · exact Nat.xor_lt_two_pow (n := 32) (by omega) (by omega)
  · omega
theorem steps_lt (n : Nat) {r : Nat} (h : r < 4294967296) : steps n r < 4294967296 := by
  induction n with
  | zero => exact h
  | succ n ih => exact step_lt ih
theorem xor_lt {x y : Nat} (hx : x < 4294967296) (hy : y < 4294967296) : x ^^^ y < 4294967296 := Nat.xor_lt_two_pow (n := 32) hx hy
theorem put_lt {r b : Nat} (h : r < 4294967296) (hb : b < 256) : put r b < 4294967296 := steps_lt 8 (xor_lt h (by omega))
theorem reg_lt : ∀ (l : List Nat) {r : Nat}, r < 4294967296 → (∀ b ∈ l, b < 256) → reg r l < 4294967296
  | [], _, h, _ => h
  | b :: l, _, h, hl => reg_lt l (put_lt h (hl b (by simp))) (fun x hx => hl x (by simp [hx]))
theorem reg_append (l m : List Nat) (r : Nat) : reg r (l ++ m) = reg (reg r l) m := List.foldl_append ..

/-- The step is one-to-one. -/
theorem step_zero {r : Nat} (h : r < 4294967296) (hz : step r = 0) : r = 0 := by
  unfold step at hz
  split at hz
  · have := xor_eq_zero hz
    omega
  · omega
theorem steps_zero (n : Nat) {r : Nat} (h : r < 4294967296) (hz : steps n r = 0) : r = 0 := by
  induction n with
  | zero => exact hz
  | succ n ih => exact ih (step_zero (steps_lt n h) hz)

/-- Digits that are 0 are passed over. -/
theorem steps_double (n y : Nat) : steps n (y * 2 ^ n) = y := by
  induction n generalizing y with
  | zero => simp [steps]
  | succ n ih =>
    rw [steps_add n 1]
    have : steps 1 (y * 2 ^ (n + 1)) = y * 2 ^ n := by
      have hp : y * 2 ^ (n + 1) = 2 * (y * 2 ^ n) := by rw [Nat.pow_succ]; simp only [Nat.mul_comm, Nat.mul_left_comm]
      simp only [steps, step, hp]
      rw [if_neg (by omega)]
      omega
    rw [this, ih]
theorem add_eq_xor {b y : Nat} (hb : b < 256) : b + y * 256 = b ^^^ (y * 256) := by
  apply Nat.eq_of_testBit_eq
  intro i
  rw [Nat.testBit_xor]
  have e : y * 256 = 2 ^ 8 * y := by omega
  rw [show b + y * 256 = 2 ^ 8 * y + b by omega, e, Nat.testBit_two_pow_mul_add _ (by simpa using hb), Nat.testBit_two_pow_mul]
  by_cases hi : i < 8
  · simp [hi, show ¬ 8 ≤ i by omega]
  · have : b.testBit i = false := Nat.testBit_lt_two_pow (Nat.lt_of_lt_of_le hb (by
      have : 2 ^ 8 ≤ 2 ^ i := Nat.pow_le_pow_right (by omega) (by omega)
      simpa using this))
    simp [hi, this, show 8 ≤ i by omega]

/-- A number of bytes, the least one first. -/
def num : List Nat → Nat
  | [] => 0
  | b :: l => b + num l * 256
theorem reg_num : ∀ (l : List Nat) (r : Nat), (∀ b ∈ l, b < 256) → reg r l = steps (8 * l.length) (r ^^^ num l)
  | [], r, _ => (Nat.xor_zero r).symm
  | b :: l, r, h => by
    rw [reg_cons, reg_num l _ (fun x hx => h x (by simp [hx])), put, num, add_eq_xor (h b (by simp)), ← Nat.xor_assoc, List.length_cons, Nat.mul_succ, steps_add, steps_xor 8 (r ^^^ b)]
    congr 2
    exact (steps_double 8 (num l)).symm
theorem num_lt : ∀ (l : List Nat), (∀ b ∈ l, b < 256) → num l < 256 ^ l.length
  | [], _ => by simp [num]
  | b :: l, h => by
    have h1 := num_lt l (fun x hx => h x (by simp [hx]))
    have h2 := h b (by simp)
    rw [num, List.length_cons, Nat.pow_succ]
    omega

theorem xor_not {x : Nat} (hx : x < 4294967296) : x ^^^ (4294967295 - x) = 4294967295 := by
  apply Nat.eq_of_testBit_eq
  intro i
  rw [Nat.testBit_xor, show 4294967295 - x = 2 ^ 32 - (x + 1) by omega, Nat.testBit_two_pow_sub_succ (by simpa using hx), show (4294967295 : Nat) = 2 ^ 32 - 1 by decide, Nat.testBit_two_pow_sub_one]
  by_cases hi : i < 32
  · simp [hi]
  · have : x.testBit i = false := Nat.testBit_lt_two_pow (Nat.lt_of_lt_of_le hx (by
      have : 2 ^ 32 ≤ 2 ^ i := Nat.pow_le_pow_right (by omega) (by omega)
      simpa using this))
    simp [hi, this]
/-- Whole bytes end at one remainder: those whose last four are the others' sum, and no others. -/
theorem whole_iff (l s : List Nat) (hl : ∀ b ∈ l, b < 256) (hs : ∀ b ∈ s, b < 256) (h4 : s.length = 4) :
    num s = sum l ↔ reg 4294967295 (l ++ s) = steps 32 4294967295 := by
  have hr : reg 4294967295 l < 4294967296 := reg_lt l (by omega) hl
  have hn : num s < 4294967296 := by simpa [h4] using num_lt s hs
  rw [reg_append, reg_num s _ hs, h4]
  have hx : ∀ x, x < 4294967296 → x ^^^ (4294967295 - x) = 4294967295 := by
    intro x hx
    apply Nat.eq_of_testBit_eq
    intro i
    rw [Nat.testBit_xor, show 4294967295 - x = 2 ^ 32 - (x + 1) by omega, Nat.testBit_two_pow_sub_succ (by simpa using hx), show (4294967295 : Nat) = 2 ^ 32 - 1 by decide, Nat.testBit_two_pow_sub_one]
    by_cases hi : i < 32
    · simp [hi]
    · have : x.testBit i = false := Nat.testBit_lt_two_pow (Nat.lt_of_lt_of_le hx (by
        have : 2 ^ 32 ≤ 2 ^ i := Nat.pow_le_pow_right (by omega) (by omega)
        simpa using this))
      simp [hi, this]
  constructor
  · intro h
    rw [h, sum, hx _ hr]
  · intro h
    have h1 : steps 32 ((reg 4294967295 l ^^^ num s) ^^^ 4294967295) = 0 := by
      rw [steps_xor, h, Nat.xor_self]
    have h2 := xor_eq_zero (steps_zero 32 (xor_lt (xor_lt hr hn) (by omega)) h1)
    have h3 : num s = reg 4294967295 l ^^^ 4294967295 := by
      exact (congrArg (reg 4294967295 l ^^^ ·) h2).symm ▸ (by rw [← Nat.xor_assoc, Nat.xor_self, Nat.zero_xor])
    rw [h3, sum]
    have h4 := hx _ hr
    have h5 : 4294967295 - reg 4294967295 l = reg 4294967295 l ^^^ (reg 4294967295 l ^^^ (4294967295 - reg 4294967295 l)) := by rw [← Nat.xor_assoc, Nat.xor_self, Nat.zero_xor]
    rw [h5, h4]

/-- Two rows of bytes, digit by digit. -/
def zipx : List Nat → List Nat → List Nat
  | a :: l, b :: m => (a ^^^ b) :: zipx l m
  | _, _ => []
theorem reg_zip : ∀ (l m : List Nat) (r s : Nat), l.length = m.length → reg (r ^^^ s) (zipx l m) = reg r l ^^^ reg s m
  | [], [], _, _, _ => rfl
  | a :: l, b :: m, r, s, h => by
    rw [zipx, reg_cons, reg_cons, reg_cons, ← reg_zip l m _ _ (by simpa using h)]
    congr 1
    unfold put
    rw [← steps_xor]
    congr 1
    rw [Nat.xor_assoc, Nat.xor_assoc, ← Nat.xor_assoc s, Nat.xor_comm s a, Nat.xor_assoc a]
  | [], _ :: _, _, _, h => by simp at h
  | _ :: _, [], _, _, h => by simp at h
theorem reg_zeros : ∀ (n : Nat) {r : Nat}, r < 4294967296 → reg r (List.replicate n 0) = 0 → r = 0
  | 0, _, _, h => h
  | n + 1, r, hr, h => by
    have := reg_zeros n (put_lt hr (by omega)) h
    rw [put, Nat.xor_zero] at this
    exact steps_zero 8 hr this
theorem reg_zero : ∀ (n : Nat), reg 0 (List.replicate n 0) = 0
  | 0 => rfl
  | n + 1 => by
    show reg (put 0 0) (List.replicate n 0) = 0
    rw [show put 0 0 = 0 by decide, reg_zero n]
theorem num_zero : ∀ (l : List Nat), num l = 0 → ∀ b ∈ l, b = 0
  | b :: l, h, x, hx => by
    rw [num] at h
    rcases List.mem_cons.1 hx with rfl | hx
    · omega
    · exact num_zero l (by omega) x hx
/-- What is changed within four bytes shows. -/
theorem burst (x : List Nat) (i j : Nat) (hx : ∀ b ∈ x, b < 256) (h4 : x.length ≤ 4) (h : reg 0 (List.replicate i 0 ++ (x ++ List.replicate j 0)) = 0) : ∀ b ∈ x, b = 0 := by
  rw [reg_append, reg_zero, reg_append] at h
  have h1 := reg_zeros j (reg_lt x (by omega) hx) h
  rw [reg_num x _ hx, Nat.zero_xor] at h1
  have h2 : num x < 4294967296 := Nat.lt_of_lt_of_le (num_lt x hx) (Nat.le_trans (Nat.pow_le_pow_right (by omega) h4) (by decide))
  exact num_zero x (steps_zero _ h2 h1)

/-- The document's step, digit by digit. -/
def digit (b : Nat) : Nat → Nat → Nat
  | 0, r => r
  | n + 1, r => let t := digit b n r; if (t ^^^ b / 2 ^ n) % 2 = 1 then (t / 2) ^^^ 3988292384 else t / 2
theorem digit_steps (b r : Nat) : ∀ n, steps n (r ^^^ b) = digit b n r ^^^ b / 2 ^ n
  | 0 => by simp [steps, digit]
  | n + 1 => by
    rw [steps, digit_steps b r n, step]
    simp only [digit]
    rw [xor_div, Nat.div_div_eq_div_mul, ← Nat.pow_succ]
    split
    · rw [Nat.xor_assoc, Nat.xor_comm (b / _), ← Nat.xor_assoc]
    · rfl
theorem digit_put {b : Nat} (r : Nat) (hb : b < 256) : digit b 8 r = put r b := by
  rw [put, digit_steps, show b / 2 ^ 8 = 0 by omega, Nat.xor_zero]

/-- A number's bytes, the least one first. -/
def le : Nat → Nat → List Nat
  | 0, _ => []
  | n + 1, x => x % 256 :: le n (x / 256)
theorem le_length : ∀ (n x : Nat), (le n x).length = n
  | 0, _ => rfl
  | n + 1, x => by rw [le, List.length_cons, le_length]
theorem le_small : ∀ (n x : Nat), ∀ y ∈ le n x, y < 256
  | n + 1, x, y, h => by
    rw [le] at h
    rcases List.mem_cons.1 h with rfl | h
    · omega
    · exact le_small n _ y h
/-- One byte more. -/
theorem le_snoc : ∀ (n x : Nat), le (n + 1) x = le n x ++ [x / 256 ^ n % 256]
  | 0, x => by simp [le]
  | n + 1, x => by
    rw [le, le_snoc n, le, Nat.div_div_eq_div_mul, Nat.pow_succ, Nat.mul_comm 256]
    rfl
theorem num_le : ∀ (n x : Nat), num (le n x) = x % 256 ^ n
  | 0, x => by simp [num, le, Nat.mod_one]
  | n + 1, x => by
    rw [le, num, num_le n, Nat.pow_succ, Nat.mul_comm (256 ^ n), Nat.mod_mul, Nat.mul_comm]
theorem le_num : ∀ (l : List Nat), (∀ b ∈ l, b < 256) → le l.length (num l) = l
  | [], _ => rfl
  | b :: l, h => by
    have hb := h b (by simp)
    rw [List.length_cons, le, num, show (b + num l * 256) % 256 = b by omega, show (b + num l * 256) / 256 = num l by omega, le_num l (fun x hx => h x (by simp [hx]))]
theorem num_snoc : ∀ (l : List Nat) (b : Nat), num (l ++ [b]) = num l + b * 256 ^ l.length
  | [], b => by simp [num]
  | a :: l, b => by
    rw [List.cons_append, num, num, num_snoc l b, List.length_cons, Nat.pow_succ, Nat.add_mul, Nat.mul_assoc, Nat.add_assoc]

/-- An operation. -/
structure HOp where
  kind : Int
  path : List Nat
  dest : List Nat
  handle : Int
  n : Int
  off : Int
  bytes : List Nat
instance : Inhabited HOp := ⟨⟨0, [], [], 0, 0, 0, []⟩⟩

def u64 (x : Int) : Nat := (x % 18446744073709551616).toNat
def s32 (x : Nat) : Int := if x < 2147483648 then x else (x : Int) - 4294967296
def s64 (x : Nat) : Int := if x < 9223372036854775808 then x else (x : Int) - 18446744073709551616
def small32 (x : Int) : Bool := decide (-2147483648 ≤ x) && decide (x ≤ 2147483647)
def rightB (o : HOp) : Bool :=
  decide (1 ≤ o.kind) && decide (o.kind ≤ 14) && decide (o.path.length ≤ 255) && decide (o.dest.length ≤ 255) && decide (o.bytes.length ≤ 1024) && small32 o.handle && small32 o.n
/-- The fields are what Go's types hold. -/
structure HOp.fits (o : HOp) : Prop where
  path : ∀ b ∈ o.path, b < 256
  dest : ∀ b ∈ o.dest, b < 256
  bytes : ∀ b ∈ o.bytes, b < 256
  off0 : -9223372036854775808 ≤ o.off
  off1 : o.off ≤ 9223372036854775807

def enc (o : HOp) : List Nat :=
  [u64 o.kind % 256, o.path.length % 256] ++ o.path ++ [o.dest.length % 256] ++ o.dest ++ le 4 (u64 o.handle) ++ le 4 (u64 o.n) ++ le 8 (u64 o.off) ++ le 2 o.bytes.length ++ o.bytes
def bodyL (l : List HOp) : List Nat := [72, 73, 83, 84] ++ le 4 l.length ++ l.flatMap enc
def writeL (l : List HOp) : List Nat × Int :=
  if 4096 < l.length then ([], 2) else if l.all rightB then (bodyL l ++ le 4 (sum (bodyL l)), 0) else ([], 1)

/-- So many bytes are taken, if they are there. -/
def takeN (k : Nat) (l : List Nat) : Option (List Nat × List Nat) := if k ≤ l.length then some (l.take k, l.drop k) else none
theorem takeN_append (a b : List Nat) {k : Nat} (h : k = a.length) : takeN k (a ++ b) = some (a, b) := by
  subst h
  simp [takeN]
theorem takeN_some {k : Nat} {l a b : List Nat} (h : takeN k l = some (a, b)) : l = a ++ b ∧ a.length = k := by
  unfold takeN at h
  split at h
  · simp only [Option.some.injEq, Prod.mk.injEq] at h
    obtain ⟨rfl, rfl⟩ := h
    exact ⟨(List.take_append_drop k l).symm, by simp; omega⟩
  · cases h

/-- A text with its length ahead, in so many bytes. -/
def textN (k : Nat) (l : List Nat) : Option (List Nat × List Nat) :=
  match takeN k l with
  | none => none
  | some (a, l) => takeN (num a) l
def tailN (kind : Nat) (p q : List Nat) (l : List Nat) : Option (HOp × List Nat) :=
  match takeN 4 l with
  | none => none
  | some (h, l) =>
    match takeN 4 l with
    | none => none
    | some (n, l) =>
      match takeN 8 l with
      | none => none
      | some (f, l) =>
        match textN 2 l with
        | none => none
        | some (b, l) => some (⟨kind, p, q, s32 (num h), s32 (num n), s64 (num f), b⟩, l)
def dec (l : List Nat) : Option (HOp × List Nat) :=
  match takeN 1 l with
  | none => none
  | some (k, l) =>
    match textN 1 l with
    | none => none
    | some (p, l) =>
      match textN 1 l with
      | none => none
      | some (q, l) => tailN (num k) p q l

theorem textN_append (k : Nat) (a b : List Nat) (h : a.length < 256 ^ k) : textN k (le k a.length ++ (a ++ b)) = some (a, b) := by
  rw [textN, takeN_append _ _ (le_length _ _).symm]
  dsimp only
  rw [takeN_append]
  rw [num_le, Nat.mod_eq_of_lt h]
theorem textN_some {k : Nat} {l a b : List Nat} (hl : ∀ x ∈ l, x < 256) (h : textN k l = some (a, b)) : l = le k a.length ++ (a ++ b) ∧ a.length < 256 ^ k := by
  unfold textN at h
  split at h
  · cases h
  · rename_i c m hc
    obtain ⟨rfl, hk⟩ := takeN_some hc
    obtain ⟨rfl, hn⟩ := takeN_some h
    have hs : ∀ x ∈ c, x < 256 := fun x hx => hl x (by simp [hx])
    rw [hn, ← hk, le_num c hs]
    exact ⟨rfl, num_lt c hs⟩
theorem s32_num {x : Int} (h : small32 x = true) : s32 (num (le 4 (u64 x))) = x := by
  simp only [small32, Bool.and_eq_true, decide_eq_true_eq] at h
  rw [num_le, s32, u64]
  split <;> omega
theorem s64_num {x : Int} (h0 : -9223372036854775808 ≤ x) (h1 : x ≤ 9223372036854775807) : s64 (num (le 8 (u64 x))) = x := by
  rw [num_le, s64, u64]
  split <;> omega

/-- What is written is read. -/
theorem dec_enc {o : HOp} (rest : List Nat) (hr : rightB o = true) (hf : o.fits) : dec (enc o ++ rest) = some (o, rest) := by
  simp only [rightB, Bool.and_eq_true, decide_eq_true_eq] at hr
  obtain ⟨⟨⟨⟨⟨⟨h0, h1⟩, h2⟩, h3⟩, h4⟩, h5⟩, h6⟩ := hr
  have e : enc o ++ rest = [u64 o.kind % 256] ++ (le 1 o.path.length ++ (o.path ++ (le 1 o.dest.length ++ (o.dest ++ (le 4 (u64 o.handle) ++ (le 4 (u64 o.n) ++ (le 8 (u64 o.off) ++ (le 2 o.bytes.length ++ (o.bytes ++ rest))))))))) := by
    simp [enc, le]
  rw [e, dec, takeN_append (k := 1) [u64 o.kind % 256] _ rfl]
  dsimp only
  rw [textN_append 1 _ _ (by omega)]
  dsimp only
  rw [textN_append 1 _ _ (by omega)]
  dsimp only
  rw [tailN, takeN_append _ _ (le_length _ _).symm]
  dsimp only
  rw [takeN_append _ _ (le_length _ _).symm]
  dsimp only
  rw [takeN_append _ _ (le_length _ _).symm]
  dsimp only
  rw [textN_append 2 _ _ (by omega)]
  dsimp only
  rw [s32_num h5, s32_num h6, s64_num hf.off0 hf.off1]
  have hk : ((num [u64 o.kind % 256] : Nat) : Int) = o.kind := by
    simp only [num, u64]
    omega
  rw [hk]

theorem enc_num {a : List Nat} {k : Nat} (h : a.length = k) (hs : ∀ b ∈ a, b < 256) {x : Nat} (hx : x % 256 ^ k = num a) : le k x = a := by
  subst h
  have h1 : ∀ (n x y : Nat), x % 256 ^ n = y % 256 ^ n → le n x = le n y := by
    intro n
    induction n with
    | zero => intros; rfl
    | succ n ih =>
      intro x y hxy
      have hp : 256 ^ (n + 1) = 256 * 256 ^ n := by rw [Nat.pow_succ, Nat.mul_comm]
      have ha : x % 256 = y % 256 := by
        have := congrArg (· % 256) hxy
        simp only [hp, Nat.mod_mul_right_mod] at this
        exact this
      have hb : x / 256 % 256 ^ n = y / 256 % 256 ^ n := by
        have := congrArg (· / 256) hxy
        simp only [hp, Nat.mod_mul_right_div_self] at this
        exact this
      rw [le, le, ha, ih _ _ hb]
  have h2 := num_lt a hs
  rw [← le_num a hs]
  rw [le_length]
  exact h1 _ _ _ (by rw [hx, Nat.mod_eq_of_lt h2])

theorem u64_s32 {x : Nat} (h : x < 4294967296) : u64 (s32 x) % 256 ^ 4 = x := by
  unfold u64 s32
  split <;> omega
theorem u64_s64 {x : Nat} (h : x < 18446744073709551616) : u64 (s64 x) % 256 ^ 8 = x := by
  unfold u64 s64
  split <;> omega

/-- What is read is written as the same bytes. -/
theorem enc_dec {l rest : List Nat} {o : HOp} (hl : ∀ x ∈ l, x < 256) (h : dec l = some (o, rest)) : l = enc o ++ rest ∧ o.fits ∧ (∀ x ∈ rest, x < 256) := by
  unfold dec at h
  split at h
  · cases h
  rename_i k l1 hk
  obtain ⟨rfl, hk1⟩ := takeN_some hk
  have hl1 : ∀ x ∈ l1, x < 256 := fun x hx => hl x (by simp [hx])
  split at h
  · cases h
  rename_i p l2 hp
  obtain ⟨rfl, hp1⟩ := textN_some hl1 hp
  have hl2 : ∀ x ∈ l2, x < 256 := fun x hx => hl1 x (by simp [hx])
  split at h
  · cases h
  rename_i q l3 hq
  obtain ⟨rfl, hq1⟩ := textN_some hl2 hq
  have hl3 : ∀ x ∈ l3, x < 256 := fun x hx => hl2 x (by simp [hx])
  unfold tailN at h
  split at h
  · cases h
  rename_i a l4 ha
  obtain ⟨rfl, ha1⟩ := takeN_some ha
  split at h
  · cases h
  rename_i n l5 hn
  obtain ⟨rfl, hn1⟩ := takeN_some hn
  split at h
  · cases h
  rename_i f l6 hf
  obtain ⟨rfl, hf1⟩ := takeN_some hf
  split at h
  · cases h
  rename_i b l7 hb
  have hl6 : ∀ x ∈ l6, x < 256 := fun x hx => hl3 x (by simp [hx])
  obtain ⟨rfl, hb1⟩ := textN_some hl6 hb
  simp only [Option.some.injEq, Prod.mk.injEq] at h
  obtain ⟨rfl, rfl⟩ := h
  have sa : ∀ x ∈ a, x < 256 := fun x hx => hl3 x (by simp [hx])
  have sn : ∀ x ∈ n, x < 256 := fun x hx => hl3 x (by simp [hx])
  have sf : ∀ x ∈ f, x < 256 := fun x hx => hl3 x (by simp [hx])
  have na := num_lt a sa
  have nn := num_lt n sn
  have nf := num_lt f sf
  rw [ha1] at na
  rw [hn1] at nn
  rw [hf1] at nf
  match k, hk1 with
  | [k0], _ =>
    have hk0 : k0 < 256 := hl k0 (by simp)
    have ek : u64 ((num [k0] : Nat) : Int) % 256 = k0 := by
      simp only [num, u64]
      omega
    refine ⟨?_, ⟨fun x hx => hl1 x (by simp [hx]), fun x hx => hl2 x (by simp [hx]), fun x hx => hl6 x (by simp [hx]), ?_, ?_⟩, fun x hx => hl6 x (by simp [hx])⟩
    · simp only [enc, ek]
      rw [enc_num ha1 sa (u64_s32 (by omega)), enc_num hn1 sn (u64_s32 (by omega)), enc_num hf1 sf (u64_s64 (by omega))]
      simp [le]
    · simp only [s64]
      split <;> omega
    · simp only [s64]
      split <;> omega

/-- So many operations, each right. -/
def decAll : Nat → List Nat → Option (List HOp × List Nat)
  | 0, l => some ([], l)
  | n + 1, l =>
    match dec l with
    | none => none
    | some (o, r) => if rightB o then (decAll n r).map fun x => (o :: x.1, x.2) else none
def readL (b : List Nat) : List HOp × Int :=
  if 8388608 < b.length then ([], 2) else if b.length < 12 then ([], 21) else
  if num (b.drop (b.length - 4)) ≠ sum (b.take (b.length - 4)) then ([], 21) else
  if (b.take 4 == [72, 73, 83, 84]) && decide (num ((b.drop 4).take 4) ≤ 4096) then
    match decAll (num ((b.drop 4).take 4)) ((b.take (b.length - 4)).drop 8) with
    | some (l, []) => (l, 0)
    | _ => ([], 50)
  else ([], 50)

theorem decAll_enc : ∀ (l : List HOp) (rest : List Nat), l.all rightB = true → (∀ o ∈ l, o.fits) → decAll l.length (l.flatMap enc ++ rest) = some (l, rest)
  | [], _, _, _ => rfl
  | o :: l, rest, h, hf => by
    rw [List.all_cons, Bool.and_eq_true] at h
    rw [List.length_cons, decAll, List.flatMap_cons, List.append_assoc, dec_enc _ h.1 (hf o (by simp))]
    dsimp only
    rw [if_pos h.1, decAll_enc l rest h.2 (fun x hx => hf x (by simp [hx]))]
    rfl
theorem decAll_some : ∀ {n : Nat} {l rest : List Nat} {os : List HOp}, (∀ x ∈ l, x < 256) → decAll n l = some (os, rest) → l = os.flatMap enc ++ rest ∧ os.length = n ∧ os.all rightB = true ∧ (∀ o ∈ os, o.fits)
  | 0, l, rest, os, _, h => by
    simp only [decAll, Option.some.injEq, Prod.mk.injEq] at h
    obtain ⟨rfl, rfl⟩ := h
    simp
  | n + 1, l, rest, os, hl, h => by
    unfold decAll at h
    split at h
    · cases h
    rename_i o r ho
    split at h
    · rename_i hr
      obtain ⟨rfl, hf, hs⟩ := enc_dec hl ho
      rw [Option.map_eq_some_iff] at h
      obtain ⟨⟨os', r'⟩, h1, h2⟩ := h
      simp only [Prod.mk.injEq] at h2
      obtain ⟨rfl, rfl⟩ := h2
      obtain ⟨rfl, h3, h4, h5⟩ := decAll_some hs h1
      refine ⟨by simp, by simp [h3], by simp [hr, h4], fun x hx => ?_⟩
      rcases List.mem_cons.1 hx with rfl | hx
      · exact hf
      · exact h5 x hx
    · cases h

theorem enc_small {o : HOp} (hf : o.fits) : ∀ x ∈ enc o, x < 256 := by
  intro x hx
  simp only [enc, List.mem_append, List.mem_cons, List.not_mem_nil, or_false] at hx
  rcases hx with (((((((((rfl | rfl) | h) | rfl) | h) | h) | h) | h) | h) | h)
  · omega
  · omega
  · exact hf.path x h
  · omega
  · exact hf.dest x h
  · exact le_small _ _ x h
  · exact le_small _ _ x h
  · exact le_small _ _ x h
  · exact le_small _ _ x h
  · exact hf.bytes x h
theorem body_small {l : List HOp} (hf : ∀ o ∈ l, o.fits) : ∀ x ∈ bodyL l, x < 256 := by
  intro x hx
  simp only [bodyL, List.mem_append, List.mem_cons, List.not_mem_nil, or_false, List.mem_flatMap] at hx
  rcases hx with ((rfl | rfl | rfl | rfl) | h) | ⟨o, ho, h⟩
  · omega
  · omega
  · omega
  · omega
  · exact le_small _ _ x h
  · exact enc_small (hf o ho) x h
theorem enc_length (o : HOp) : (enc o).length = 21 + o.path.length + o.dest.length + o.bytes.length := by
  simp [enc, le_length]
  omega
theorem body_length (l : List HOp) : 8 ≤ (bodyL l).length := by
  simp [bodyL, le_length]
theorem sum_lt (l : List Nat) : sum l < 4294967296 := by
  unfold sum
  omega

theorem read_body (l : List HOp) (hl : l.length ≤ 4096) (hr : l.all rightB = true) (hf : ∀ o ∈ l, o.fits) (hn : (bodyL l).length ≤ 8388604) (s : List Nat) (hs : s.length = 4) (he : num s = sum (bodyL l)) :
    readL (bodyL l ++ s) = (l, 0) := by
  have hb := body_length l
  have h1 : (bodyL l ++ s).length - 4 = (bodyL l).length := by simp [hs]
  unfold readL
  rw [if_neg (by simp; omega), if_neg (by simp; omega), h1, List.drop_left, List.take_left, if_neg (by simpa using he)]
  have h2 : (bodyL l ++ s).take 4 = [72, 73, 83, 84] := by simp [bodyL]
  have h3 : ((bodyL l ++ s).drop 4).take 4 = le 4 l.length := by
    have : (bodyL l ++ s).drop 4 = le 4 l.length ++ (l.flatMap enc ++ s) := by simp [bodyL]
    rw [this, List.take_append_of_le_length (by rw [le_length]; omega), List.take_of_length_le (by rw [le_length]; omega)]
  have h4 : num (le 4 l.length) = l.length := by
    rw [num_le]
    omega
  have h5 : (bodyL l).drop 8 = l.flatMap enc ++ [] := by
    have : bodyL l = ([72, 73, 83, 84] ++ le 4 l.length) ++ l.flatMap enc := rfl
    rw [this, List.append_nil]
    exact List.drop_left' (by simp [le_length])
  rw [h2, h3, h4, h5, if_pos (by simp; omega), decAll_enc l [] hr hf]

/-- What is written is read as it was. -/
theorem read_write {l : List HOp} {b : List Nat} (hf : ∀ o ∈ l, o.fits) (hn : (bodyL l).length ≤ 8388604) (h : writeL l = (b, 0)) : readL b = (l, 0) := by
  unfold writeL at h
  split at h
  · simp at h
  rename_i h1
  split at h
  · rename_i h2
    simp only [Prod.mk.injEq, and_true] at h
    subst h
    refine read_body l (by omega) h2 hf hn _ (le_length _ _) ?_
    rw [num_le]
    have := sum_lt (bodyL l)
    omega
  · simp at h

/-- What is read is written as the same bytes. -/
theorem write_read {b : List Nat} {l : List HOp} (hb : ∀ x ∈ b, x < 256) (h : readL b = (l, 0)) : writeL l = (b, 0) ∧ (∀ o ∈ l, o.fits) := by
  unfold readL at h
  split at h
  · simp at h
  split at h
  · simp at h
  rename_i h12
  split at h
  · simp at h
  rename_i hs
  split at h
  · rename_i hm
    simp only [Bool.and_eq_true, beq_iff_eq, decide_eq_true_eq] at hm
    obtain ⟨hm, hc⟩ := hm
    split at h
    · rename_i os hd
      simp only [Prod.mk.injEq, and_true] at h
      subst h
      obtain ⟨h1, h2, h3, h4⟩ := decAll_some (fun x hx => hb x (List.mem_of_mem_take (List.mem_of_mem_drop hx))) hd
      refine ⟨?_, h4⟩
      have h8 : b.take (b.length - 4) = bodyL os := by
        have e : (b.take (b.length - 4)) = (b.take (b.length - 4)).take 8 ++ (b.take (b.length - 4)).drop 8 := (List.take_append_drop _ _).symm
        rw [e, h1, List.append_nil, List.take_take, Nat.min_eq_left (by omega)]
        have e2 : b.take 8 = b.take 4 ++ (b.drop 4).take 4 := by rw [← List.take_add]
        rw [e2, hm, bodyL, h2]
        congr 2
        have hl4 : ((b.drop 4).take 4).length = 4 := by simp; omega
        have := le_num ((b.drop 4).take 4) (fun x hx => hb x (List.mem_of_mem_drop (List.mem_of_mem_take hx)))
        rw [hl4] at this
        exact this.symm
      have h9 : le 4 (sum (bodyL os)) = b.drop (b.length - 4) := by
        have hs' : num (b.drop (b.length - 4)) = sum (b.take (b.length - 4)) := by simpa using hs
        rw [h8] at hs'
        have hl4 : (b.drop (b.length - 4)).length = 4 := by simp; omega
        have := le_num (b.drop (b.length - 4)) (fun x hx => hb x (List.mem_of_mem_drop hx))
        rw [hl4, hs'] at this
        exact this
      unfold writeL
      rw [if_neg (by omega), if_pos h3, h9, ← h8, List.take_append_drop]
    · simp at h
  · simp at h

/-- What is changed at a place: each byte by one of x. -/
def maskAt (k : Nat) (x : List Nat) (i : Nat) : Nat := if i < k then 0 else x.getD (i - k) 0
def xorAt (b : List Nat) (k : Nat) (x : List Nat) : List Nat := (List.range b.length).map fun i => b.getD i 0 ^^^ maskAt k x i
theorem xorAt_length (b : List Nat) (k : Nat) (x : List Nat) : (xorAt b k x).length = b.length := by simp [xorAt]
theorem xorAt_getD (b : List Nat) (k : Nat) (x : List Nat) {i : Nat} (h : i < b.length) : (xorAt b k x).getD i 0 = b.getD i 0 ^^^ maskAt k x i := by
  simp [xorAt, List.getD, h]
theorem getD_small {l : List Nat} (h : ∀ b ∈ l, b < 256) (i : Nat) : l.getD i 0 < 256 := by
  rcases Nat.lt_or_ge i l.length with hi | hi
  · have : l.getD i 0 = l[i] := by simp [List.getD, hi]
    rw [this]
    exact h _ (List.getElem_mem hi)
  · rw [List.getD_eq_getElem?_getD, List.getElem?_eq_none hi]
    decide
theorem mask_small {k : Nat} {x : List Nat} (h : ∀ b ∈ x, b < 256) (i : Nat) : maskAt k x i < 256 := by
  unfold maskAt
  split
  · omega
  · exact getD_small h _
theorem xorAt_small {b : List Nat} {k : Nat} {x : List Nat} (hb : ∀ c ∈ b, c < 256) (hx : ∀ c ∈ x, c < 256) : ∀ c ∈ xorAt b k x, c < 256 := by
  intro c hc
  obtain ⟨i, _, rfl⟩ := List.mem_map.1 hc
  exact Nat.xor_lt_two_pow (n := 8) (getD_small hb i) (mask_small hx i)
theorem xorAt_nil (b : List Nat) (k : Nat) : xorAt b k [] = b := by
  refine List.ext_getElem (xorAt_length ..) fun i h1 h2 => ?_
  simp [xorAt, maskAt, h2]
theorem xorAt_snoc {b : List Nat} {k i : Nat} {x : List Nat} (hi : i < x.length) (hk : k + x.length ≤ b.length) :
    xorAt b k (x.take (i + 1)) = (xorAt b k (x.take i)).set (k + i) (b.getD (k + i) 0 ^^^ x.getD i 0) ∧ (xorAt b k (x.take i)).getD (k + i) 0 = b.getD (k + i) 0 := by
  constructor
  · refine List.ext_getElem (by simp [xorAt_length]) fun j h1 h2 => ?_
    simp only [xorAt_length] at h1
    rw [List.getElem_set]
    have hp : ∀ y : List Nat, ∀ hh, (xorAt b k y)[j]'hh = b.getD j 0 ^^^ maskAt k y j := fun y hh => by simp [xorAt]
    rw [hp]
    split
    · rename_i hj
      subst hj
      simp [maskAt, show ¬ k + i < k by omega]
    · rw [hp]
      congr 1
      unfold maskAt
      split
      · rfl
      · simp only [List.getD_eq_getElem?_getD, List.getElem?_take]
        by_cases hji : j - k < i
        · rw [if_pos (by omega), if_pos hji]
        · rw [if_neg (by omega), if_neg hji]
  · rw [xorAt_getD _ _ _ (by omega), maskAt, if_neg (by omega), List.getD_eq_getElem?_getD (l := x.take i), List.getElem?_take, if_neg (by omega)]
    simp
theorem zip_length : ∀ (a b : List Nat), a.length = b.length → (zipx a b).length = a.length
  | [], [], _ => rfl
  | a :: l, b :: m, h => by rw [zipx, List.length_cons, List.length_cons, zip_length l m (by simpa using h)]
  | [], _ :: _, h => by simp at h
  | _ :: _, [], h => by simp at h
theorem zip_getD : ∀ (a b : List Nat) (i : Nat), a.length = b.length → i < a.length → (zipx a b).getD i 0 = a.getD i 0 ^^^ b.getD i 0
  | a :: l, b :: m, 0, _, _ => rfl
  | a :: l, b :: m, i + 1, h, hi => by
    have := zip_getD l m i (by simpa using h) (by simpa using hi)
    simpa [zipx] using this
  | [], _, _, _, hi => by simp at hi
  | _ :: _, [], _, h, _ => by simp at h
theorem zip_xorAt (b : List Nat) (k : Nat) (x : List Nat) (hk : k + x.length ≤ b.length) : zipx b (xorAt b k x) = List.replicate k 0 ++ (x ++ List.replicate (b.length - k - x.length) 0) := by
  have hl := zip_length b (xorAt b k x) (xorAt_length ..).symm
  refine List.ext_getElem (by rw [hl]; simp; omega) fun i h1 h2 => ?_
  have h3 : (zipx b (xorAt b k x))[i] = (zipx b (xorAt b k x)).getD i 0 := by simp [List.getD, h1]
  rw [hl] at h1
  rw [h3, zip_getD _ _ _ (xorAt_length ..).symm h1, xorAt_getD _ _ _ h1, ← Nat.xor_assoc, Nat.xor_self, Nat.zero_xor]
  unfold maskAt
  split
  · rw [List.getElem_append_left (by simpa)]
    simp
  · rw [List.getElem_append_right (by simp; omega)]
    simp only [List.length_replicate]
    rcases Nat.lt_or_ge (i - k) x.length with hx | hx
    · rw [List.getElem_append_left hx]
      simp [List.getD, hx]
    · rw [List.getElem_append_right hx, List.getD_eq_getElem?_getD, List.getElem?_eq_none hx]
      simp

/-- What differs within four bytes is torn. -/
theorem torn_read {l : List HOp} {b x : List Nat} {k : Nat} (hf : ∀ o ∈ l, o.fits) (hn : (bodyL l).length ≤ 8388604) (h : writeL l = (b, 0)) (hx : ∀ c ∈ x, c < 256) (h4 : x.length ≤ 4) (hk : k + x.length ≤ b.length) :
    (readL (xorAt b k x)).2 = if x.all (· == 0) then 0 else 21 := by
  have hr := read_write hf hn h
  have hb : ∀ c ∈ b, c < 256 := by
    unfold writeL at h
    split at h
    · simp at h
    split at h
    · simp only [Prod.mk.injEq, and_true] at h
      subst h
      intro c hc
      rcases List.mem_append.1 hc with hc | hc
      · exact body_small hf c hc
      · exact le_small _ _ c hc
    · simp at h
  split
  · rename_i hz
    have hz' : ∀ c ∈ x, c = 0 := by simpa using hz
    have he : xorAt b k x = b := by
      refine List.ext_getElem (xorAt_length ..) fun i h1 h2 => ?_
      have hm : maskAt k x i = 0 := by
        unfold maskAt
        split
        · rfl
        · rcases Nat.lt_or_ge (i - k) x.length with hx | hx
          · have : x.getD (i - k) 0 = x[i - k] := by simp [List.getD, hx]
            rw [this]
            exact hz' _ (List.getElem_mem hx)
          · rw [List.getD_eq_getElem?_getD, List.getElem?_eq_none hx]
            rfl
      simp [xorAt, hm, h2]
    rw [he, hr]
  · rename_i hz
    have hlen := xorAt_length b k x
    have h12 : ¬ 8388608 < b.length ∧ ¬ b.length < 12 := by
      unfold readL at hr
      split at hr
      · simp at hr
      split at hr
      · simp at hr
      · exact ⟨by assumption, by assumption⟩
    have hsum : ∀ c : List Nat, (∀ y ∈ c, y < 256) → c.length = b.length → (num (c.drop (c.length - 4)) = sum (c.take (c.length - 4)) ↔ reg 4294967295 c = steps 32 4294967295) := by
      intro c hc hcl
      have := whole_iff (c.take (c.length - 4)) (c.drop (c.length - 4)) (fun y hy => hc y (List.mem_of_mem_take hy)) (fun y hy => hc y (List.mem_of_mem_drop hy)) (by simp; omega)
      rw [List.take_append_drop] at this
      exact this
    have hown : num (b.drop (b.length - 4)) = sum (b.take (b.length - 4)) := by
      unfold readL at hr
      rw [if_neg h12.1, if_neg h12.2] at hr
      split at hr
      · simp at hr
      · rename_i hh
        exact Decidable.not_not.1 hh
    have hne : num ((xorAt b k x).drop ((xorAt b k x).length - 4)) ≠ sum ((xorAt b k x).take ((xorAt b k x).length - 4)) := by
      intro he
      have e1 := (hsum b hb rfl).1 hown
      have e2 := (hsum _ (xorAt_small hb hx) hlen).1 he
      have e3 := reg_zip b (xorAt b k x) 4294967295 4294967295 hlen.symm
      rw [e1, e2, Nat.xor_self, Nat.xor_self, zip_xorAt b k x hk] at e3
      have e4 := burst x k _ hx h4 e3
      exact hz (by simpa using e4)
    unfold readL
    rw [hlen] at hne ⊢
    rw [if_neg h12.1, if_neg h12.2, if_pos hne]

end Go.Proofs.YtnfhlocflpdlcaaGreat.HP

