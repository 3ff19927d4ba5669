/-
  Plain law of the sums of bytes: a register of 32 bits, and what is linear in it.
-/
import Derived.ProofKit
set_option linter.unusedVariables false
set_option linter.unusedSimpArgs false
namespace Go.CrcLaw

abbrev R := BitVec 32

/-- One bit falls out. -/
def half (r : R) : R := (r >>> 1) ^^^ (bif r.getLsbD 0 then 0xedb88320#32 else 0#32)
def Lin (f : R → R) : Prop := ∀ x y, f (x ^^^ y) = f x ^^^ f y

def sumBits (x : R) : Nat → R
  | 0 => 0#32
  | n + 1 => sumBits x n ^^^ (bif x.getLsbD n then 1#32 <<< n else 0#32)

theorem sumBits_bit (x : R) (n : Nat) (i : Nat) (hn : n ≤ 32) : (sumBits x n).getLsbD i = (decide (i < n) && x.getLsbD i) := by
  induction n with
  | zero => simp [sumBits]
  | succ n ih =>
    simp only [sumBits, BitVec.getLsbD_xor]
    rw [ih (by omega)]
    by_cases e : i = n
    · subst e
      have h1 : (1#32 <<< i).getLsbD i = true := by simp; omega
      cases hx : x.getLsbD i <;> simp [h1]
    · have h1 : (1#32 <<< n).getLsbD i = false := by
        simp only [BitVec.getLsbD_shiftLeft, BitVec.getLsbD_one]
        by_cases h : i < n
        · simp [h]
        · have : i - n ≠ 0 := by omega
          simp [this]
      have h2 : (bif x.getLsbD n then 1#32 <<< n else 0#32).getLsbD i = false := by
        cases x.getLsbD n
        · simp
        · simpa using h1
      rw [h2]
      have : decide (i < n + 1) = decide (i < n) := by
        by_cases h : i < n
        · simp [h]; omega
        · simp [h]; omega
      rw [this]; simp

theorem sumBits_all (x : R) : sumBits x 32 = x := by
  apply BitVec.eq_of_getLsbD_eq
  intro i hi
  rw [sumBits_bit x 32 i (by omega)]
  simp [hi]

theorem Lin.zero {f : R → R} (h : Lin f) : f 0#32 = 0#32 := by
  have := h 0#32 0#32
  simpa using this

/-- Two linear maps that agree at each bit agree. -/
theorem lin_ext {f g : R → R} (hf : Lin f) (hg : Lin g) (h : ∀ i : Fin 32, f (1#32 <<< i.val) = g (1#32 <<< i.val)) : ∀ x, f x = g x := by
  intro x
  have key : ∀ n, n ≤ 32 → f (sumBits x n) = g (sumBits x n) := by
    intro n
    induction n with
    | zero => intro _; show f 0#32 = g 0#32; rw [hf.zero, hg.zero]
    | succ n ih =>
      intro hn
      simp only [sumBits]
      rw [hf, hg, ih (by omega)]
      congr 1
      cases x.getLsbD n with
      | false => show f 0#32 = g 0#32; rw [hf.zero, hg.zero]
      | true => exact h ⟨n, by omega⟩
  have := key 32 (Nat.le_refl _)
  rwa [sumBits_all] at this

theorem Lin.id : Lin (fun x => x) := fun _ _ => rfl
theorem Lin.comp {f g : R → R} (hf : Lin f) (hg : Lin g) : Lin (fun x => f (g x)) := fun x y => by
  show f (g (x ^^^ y)) = _
  rw [hg, hf]
theorem xor4 (a b c d : R) : (a ^^^ b) ^^^ (c ^^^ d) = (a ^^^ c) ^^^ (b ^^^ d) := by ac_rfl
theorem Lin.xor {f g : R → R} (hf : Lin f) (hg : Lin g) : Lin (fun x => f x ^^^ g x) := fun x y => by
  show f (x ^^^ y) ^^^ g (x ^^^ y) = _
  rw [hf, hg, xor4]
theorem Lin.shr (n : Nat) : Lin (fun x => x >>> n) := fun x y => by
  show (x ^^^ y) >>> n = _
  exact BitVec.ushiftRight_xor_distrib x y n
theorem Lin.shl (n : Nat) : Lin (fun x => x <<< n) := fun x y => by
  show (x ^^^ y) <<< n = _
  exact BitVec.shiftLeft_xor_distrib x y n
/-- A bit, times what. -/
theorem Lin.bit (i : Nat) (c : R) : Lin (fun x => bif x.getLsbD i then c else 0#32) := fun x y => by
  show (bif (x ^^^ y).getLsbD i then c else 0#32) = (bif x.getLsbD i then c else 0#32) ^^^ (bif y.getLsbD i then c else 0#32)
  rw [BitVec.getLsbD_xor]
  cases x.getLsbD i <;> cases y.getLsbD i <;> simp
theorem Lin.half : Lin half := Lin.xor (Lin.shr 1) (Lin.bit 0 _)

/-- Many bits fall out. -/
def hs : Nat → R → R
  | 0, r => r
  | n + 1, r => hs n (half r)
theorem Lin.hs (n : Nat) : Lin (hs n) := by
  induction n with
  | zero => exact Lin.id
  | succ n ih => exact fun x y => Lin.comp ih Lin.half x y
theorem hs_add (m n : Nat) (r : R) : hs (m + n) r = hs n (hs m r) := by
  induction m generalizing r with
  | zero => rw [Nat.zero_add]; rfl
  | succ m ih => rw [Nat.succ_add]; exact ih (half r)

theorem hs_half (n : Nat) (r : R) : hs n (half r) = half (hs n r) := by
  have := hs_add n 1 r
  rw [show hs (n + 1) r = hs n (half r) from rfl] at this
  exact this

/-- The way back. -/
def dbl (x : R) : R := (x <<< 1) ^^^ (bif x.getLsbD 31 then (0xedb88320#32 <<< 1) ^^^ 1#32 else 0#32)
theorem dbl_half (x : R) : dbl (half x) = x := by
  refine lin_ext (Lin.comp (Lin.xor (Lin.shl 1) (Lin.bit 31 _)) Lin.half) Lin.id ?_ x
  decide +kernel
theorem half_inj {x y : R} (h : half x = half y) : x = y := by rw [← dbl_half x, h, dbl_half]
theorem hs_inj {n : Nat} {x y : R} (h : hs n x = hs n y) : x = y := by
  induction n generalizing x y with
  | zero => exact h
  | succ n ih => exact half_inj (ih h)

/-! ### Four bits at once -/
def four : Nat → R
  | 0 => 0#32 | 1 => 498536548#32 | 2 => 997073096#32 | 3 => 651767980#32 | 4 => 1994146192#32 | 5 => 1802195444#32 | 6 => 1303535960#32 | 7 => 1342533948#32
  | 8 => 3988292384#32 | 9 => 4027552580#32 | 10 => 3604390888#32 | 11 => 3412177804#32 | 12 => 2607071920#32 | 13 => 2262029012#32 | 14 => 2685067896#32 | 15 => 3183342108#32
  | _ => 0#32
theorem four_lin : ∀ a b : Fin 16, four (a.val ^^^ b.val) = four a.val ^^^ four b.val := by decide +kernel
theorem and15_lt (x : R) : (x &&& 15#32).toNat < 16 := by
  rw [BitVec.toNat_and]
  have : x.toNat &&& (15#32).toNat ≤ (15#32).toNat := Nat.and_le_right
  have e : (15#32).toNat = 15 := by decide
  omega
theorem xor_and (x y c : R) : (x ^^^ y) &&& c = (x &&& c) ^^^ (y &&& c) := by
  apply BitVec.eq_of_getLsbD_eq
  intro i hi
  simp only [BitVec.getLsbD_and, BitVec.getLsbD_xor]
  cases x.getLsbD i <;> cases y.getLsbD i <;> cases c.getLsbD i <;> rfl
theorem Lin.low4 : Lin (fun x => four (x &&& 15#32).toNat) := fun x y => by
  show four ((x ^^^ y) &&& 15#32).toNat = _
  have e : ((x ^^^ y) &&& 15#32).toNat = (x &&& 15#32).toNat ^^^ (y &&& 15#32).toNat := by
    rw [xor_and, BitVec.toNat_xor]
  rw [e]
  exact four_lin ⟨_, and15_lt x⟩ ⟨_, and15_lt y⟩
theorem hs4 (r : R) : hs 4 r = (r >>> 4) ^^^ four (r &&& 15#32).toNat := by
  refine lin_ext (Lin.hs 4) (Lin.xor (Lin.shr 4) Lin.low4) ?_ r
  decide +kernel

/-! ### Bytes -/
/-- A register behind one byte more. -/
def step (r c : R) : R := hs 8 (r ^^^ c)
def raw (g : Nat → R) (r : R) : Nat → R
  | 0 => r
  | n + 1 => step (raw g r n) (g n)
def more (g : Nat → R) (s : R) (n : Nat) : R := ~~~ (raw g (~~~ s) n)

theorem raw_xor (g : Nat → R) (r s : R) (n : Nat) : raw g (r ^^^ s) n = raw g r n ^^^ hs (8 * n) s := by
  induction n with
  | zero => rfl
  | succ n ih =>
    simp only [raw, step]
    rw [ih, Nat.mul_succ, hs_add]
    rw [show raw g r n ^^^ hs (8 * n) s ^^^ g n = (raw g r n ^^^ g n) ^^^ hs (8 * n) s by ac_rfl]
    rw [Lin.hs 8]

theorem not_xor (x y : R) : ~~~ (x ^^^ y) = ~~~ x ^^^ y := by
  apply BitVec.eq_of_getLsbD_eq
  intro i hi
  simp [hi]
theorem not_eq_xor (x : R) : ~~~ x = 4294967295#32 ^^^ x := by
  rw [show (4294967295#32 : R) = BitVec.allOnes 32 by decide, BitVec.allOnes_xor]

/-- The sum of bytes gone on with from a sum: the sum from nothing, and the sum moved on. -/
theorem more_split (g : Nat → R) (s : R) (n : Nat) : more g s n = more g 0#32 n ^^^ hs (8 * n) s := by
  unfold more
  have e : ~~~ s = ~~~ (0#32) ^^^ s := by rw [← not_xor]; simp
  rw [e, raw_xor, not_xor]

/-- Bytes behind bytes. -/
def cat (g : Nat → R) (n : Nat) (h : Nat → R) : Nat → R := fun i => if i < n then g i else h (i - n)
theorem raw_congr {g h : Nat → R} {n : Nat} (e : ∀ i, i < n → g i = h i) (r : R) : raw g r n = raw h r n := by
  induction n with
  | zero => rfl
  | succ n ih =>
    simp only [raw]
    rw [ih (fun i hi => e i (by omega)), e n (by omega)]
theorem raw_cat (g h : Nat → R) (n m : Nat) (r : R) : raw (cat g n h) r (n + m) = raw h (raw g r n) m := by
  induction m with
  | zero => exact raw_congr (fun i hi => by unfold cat; rw [if_pos (by omega)]) r
  | succ m ih =>
    rw [Nat.add_succ]
    simp only [raw]
    rw [ih]
    unfold cat
    rw [if_neg (by omega), show n + m - n = m by omega]
theorem more_cat (g h : Nat → R) (n m : Nat) (s : R) : more (cat g n h) s (n + m) = more h (more g s n) m := by
  unfold more
  rw [raw_cat]
  simp

/-! ### Products -/
/-- The product, by the bits of the first from the highest one. -/
def mulGo (a : R) : Nat → R → R → R
  | 0, _, out => out
  | k + 1, b, out => mulGo a k (half b) (bif a.getLsbD k then out ^^^ b else out)
def times (a b : R) : R := mulGo a 32 b 0#32
def mulSum (a : R) : Nat → R → R
  | 0, _ => 0#32
  | k + 1, b => (bif a.getLsbD k then b else 0#32) ^^^ mulSum a k (half b)
theorem mulGo_eq (a : R) : ∀ (k : Nat) (b out : R), mulGo a k b out = out ^^^ mulSum a k b := by
  intro k
  induction k with
  | zero => intro b out; simp [mulGo, mulSum]
  | succ k ih =>
    intro b out
    simp only [mulGo, mulSum]
    rw [ih]
    cases a.getLsbD k
    · simp
    · simp only [cond_true]; ac_rfl
theorem mulSum_lin_b (a : R) (k : Nat) : Lin (mulSum a k) := by
  induction k with
  | zero => intro x y; simp [mulSum]
  | succ k ih =>
    intro x y
    simp only [mulSum]
    rw [Lin.half, ih]
    cases a.getLsbD k
    · simp
    · simp only [cond_true]; ac_rfl
theorem mulSum_lin_a (b : R) (k : Nat) : Lin (fun a => mulSum a k b) := by
  induction k generalizing b with
  | zero => intro x y; simp [mulSum]
  | succ k ih =>
    intro x y
    have h := ih (half b) x y
    simp only at h
    show (bif (x ^^^ y).getLsbD k then b else 0#32) ^^^ mulSum (x ^^^ y) k (half b) = ((bif x.getLsbD k then b else 0#32) ^^^ mulSum x k (half b)) ^^^ ((bif y.getLsbD k then b else 0#32) ^^^ mulSum y k (half b))
    have e := Lin.bit k b x y
    simp only at e
    rw [h, e, xor4]
theorem times_eq (a b : R) : times a b = mulSum a 32 b := by unfold times; rw [mulGo_eq]; simp
theorem times_lin_a (b : R) : Lin (fun a => times a b) := fun x y => by
  have := mulSum_lin_a b 32 x y
  simp only [times_eq]
  exact this
theorem times_lin_b (a : R) : Lin (times a) := fun x y => by
  simp only [times_eq]
  exact mulSum_lin_b a 32 x y
/-- Bit i of the first, alone. -/
theorem times_bit (i : Fin 32) (b : R) : times (1#32 <<< i.val) b = hs (31 - i.val) b := by
  refine lin_ext (times_lin_b _) (Lin.hs _) ?_ b
  revert i
  decide +kernel
theorem times_half (a b : R) : times (half a) b = half (times a b) := by
  refine lin_ext (f := fun a => times (half a) b) (g := fun a => half (times a b)) (Lin.comp (f := fun a => times a b) (times_lin_a b) Lin.half) (Lin.comp (g := fun a => times a b) Lin.half (times_lin_a b)) ?_ a
  intro i
  show times (half (1#32 <<< i.val)) b = half (times (1#32 <<< i.val) b)
  refine lin_ext (times_lin_b _) (Lin.comp Lin.half (times_lin_b _)) ?_ b
  revert i
  decide +kernel
def unit : R := 1#32 <<< 31
theorem times_hs (m : Nat) (b : R) : times (hs m unit) b = hs m b := by
  induction m with
  | zero => exact times_bit ⟨31, by omega⟩ b
  | succ m ih =>
    rw [show hs (m + 1) unit = hs m (half unit) from rfl, hs_half, times_half, ih, ← hs_half]
    rfl

/-- The product of powers, by the bits of a number. -/
def joinGo : Nat → Nat → R → R → R
  | 0, _, _, a => a
  | f + 1, n, p, a => if n = 0 then a else joinGo f (n / 2) (times p p) (if n % 2 = 1 then times p a else a)
theorem joinGo_eq : ∀ (f n m : Nat) (a : R), n ≤ f → joinGo f n (hs m unit) a = hs (m * n) a := by
  intro f
  induction f with
  | zero =>
    intro n m a hn
    have : n = 0 := by omega
    subst this
    rfl
  | succ f ih =>
    intro n m a hn
    unfold joinGo
    split
    · rename_i h; subst h; rfl
    · rename_i h
      rw [times_hs, ← hs_add, ih (n / 2) (m + m) _ (by omega)]
      split
      · rename_i h1
        rw [times_hs, ← hs_add]
        congr 1
        have : n = 2 * (n / 2) + 1 := by omega
        rw [this]
        have e : (2 * (n / 2) + 1) / 2 = n / 2 := by omega
        rw [e, Nat.mul_add, Nat.add_mul, ← Nat.mul_assoc, Nat.mul_comm m 2, Nat.two_mul, Nat.add_mul]
        omega
      · rename_i h1
        congr 1
        have : n = 2 * (n / 2) := by omega
        rw [this]
        have e : (2 * (n / 2)) / 2 = n / 2 := by omega
        rw [e, ← Nat.mul_assoc, Nat.mul_comm m 2, Nat.two_mul]
theorem power8 : (1#32 <<< 23 : R) = hs 8 unit := by decide +kernel
def join (a b : R) (n : Nat) : R := joinGo n n (8388608#32) a ^^^ b
theorem join_eq (a b : R) (n : Nat) : join a b n = hs (8 * n) a ^^^ b := by
  unfold join
  rw [show (8388608#32 : R) = hs 8 unit from by rw [← power8]; decide +kernel, joinGo_eq n n 8 a (Nat.le_refl _)]
/-- Bytes and their sum. -/
def sealB (gi : Nat → Int) (s : R) (n e : Nat) : Int := if e < n then gi e else ((s.toNat / 256 ^ (e - n) % 256 : Nat) : Int)
theorem sealB_rng {gi : Nat → Int} {s : R} {n : Nat} (h : ∀ i, i < n → 0 ≤ gi i ∧ gi i < 256) (i : Nat) : 0 ≤ sealB gi s n i ∧ sealB gi s n i < 256 := by
  unfold sealB
  split
  · exact h i ‹_›
  · constructor
    · exact Int.natCast_nonneg _
    · generalize s.toNat / 256 ^ (i - n) = q
      omega

/-! ### Turned bits -/
theorem raw_flip (g : Nat → R) (r x : R) (q : Nat) : ∀ n, q < n → raw (fun j => if j = q then g j ^^^ x else g j) r n = raw g r n ^^^ hs (8 * (n - q)) x := by
  intro n
  induction n with
  | zero => intro h; omega
  | succ n ih =>
    intro h
    by_cases e : q = n
    · subst e
      simp only [raw]
      rw [raw_congr (g := fun j => if j = q then g j ^^^ x else g j) (h := g) (fun i hi => if_neg (by omega))]
      simp only [if_true]
      rw [show 8 * (q + 1 - q) = 8 by omega]
      unfold step
      rw [← BitVec.xor_assoc, Lin.hs 8]
    · have := ih (by omega)
      simp only [raw]
      rw [this, if_neg (by omega)]
      unfold step
      rw [show 8 * (n + 1 - q) = 8 * (n - q) + 8 by omega, hs_add]
      rw [show raw g r n ^^^ hs (8 * (n - q)) x ^^^ g n = (raw g r n ^^^ g n) ^^^ hs (8 * (n - q)) x by ac_rfl, Lin.hs 8]
theorem one_down (i : Fin 32) : hs i.val (1#32 <<< i.val) = 1#32 := by revert i; decide +kernel
theorem shl_down {m i : Nat} (hi : i < 32) (hm : i ≤ m) : hs m (1#32 <<< i) = hs (m - i) 1#32 := by
  rw [show m = i + (m - i) by omega, hs_add, one_down ⟨i, hi⟩]
  congr 1
  omega
/-- Bytes of which bits are turned, from bit k on. -/
def turn (g : Nat → R) (x : R) (k : Nat) : Nat → Nat → R
  | 0 => g
  | i + 1 => fun j => bif x.getLsbD i then (if j = (k + i) / 8 then turn g x k i j ^^^ 1#32 <<< ((k + i) % 8) else turn g x k i j) else turn g x k i j
theorem raw_turn (g : Nat → R) (x r : R) (k n : Nat) (hk : k + 32 ≤ 8 * n) : ∀ i, i ≤ 32 → raw (turn g x k i) r n = raw g r n ^^^ hs (8 * n - k) (sumBits x i) := by
  intro i
  induction i with
  | zero => intro _; show raw g r n = _; rw [show sumBits x 0 = 0#32 from rfl, (Lin.hs _).zero]; simp
  | succ i ih =>
    intro hi
    simp only [turn, sumBits]
    cases hx : x.getLsbD i with
    | false => simp only [cond_false]; rw [ih (by omega)]; simp
    | true =>
      simp only [cond_true]
      rw [raw_flip _ _ _ _ n (by omega), ih (by omega), Lin.hs, BitVec.xor_assoc]
      congr 2
      rw [shl_down (i := i) (by omega) (by omega), shl_down (i := (k + i) % 8) (by omega) (by omega)]
      congr 1
      omega
def byteOf (s : R) (j : Nat) : R := (s >>> (8 * j)) &&& 255#32
theorem Lin.byteOf (j : Nat) : Lin (fun s => byteOf s j) := fun x y => by
  show ((x ^^^ y) >>> (8 * j)) &&& 255#32 = _
  rw [BitVec.ushiftRight_xor_distrib, xor_and]; rfl
theorem Lin.step2 {f h : R → R} (hf : Lin f) (hh : Lin h) : Lin (fun x => step (f x) (h x)) := Lin.comp (Lin.hs 8) (Lin.xor hf hh)
theorem four_bytes (s : R) : step (step (step (step 0#32 (byteOf s 0)) (byteOf s 1)) (byteOf s 2)) (byteOf s 3) = hs 32 s := by
  refine lin_ext (f := fun s => step (step (step (step 0#32 (byteOf s 0)) (byteOf s 1)) (byteOf s 2)) (byteOf s 3)) (g := hs 32) ?_ (Lin.hs 32) ?_ s
  · refine Lin.step2 (Lin.step2 (Lin.step2 (Lin.step2 (f := fun _ => 0#32) (fun _ _ => by simp) (Lin.byteOf 0)) (Lin.byteOf 1)) (Lin.byteOf 2)) (Lin.byteOf 3)
  · decide +kernel
theorem raw_sealed (g : Nat → R) (n : Nat) (h : ∀ j, j < 4 → g (n + j) = byteOf (more g 0#32 n) j) : raw g (~~~ 0#32) (n + 4) = hs 32 (~~~ 0#32) := by
  have h0 := h 0 (by omega)
  have h1 := h 1 (by omega)
  have h2 := h 2 (by omega)
  have h3 := h 3 (by omega)
  have e : raw g (~~~ 0#32) (n + 4) = step (step (step (step (raw g (~~~ 0#32) n) (g (n + 0))) (g (n + 1))) (g (n + 2))) (g (n + 3)) := rfl
  rw [e, h0, h1, h2, h3]
  generalize hs0 : more g 0#32 n = s
  have hr : raw g (~~~ 0#32) n = ~~~ s := by
    rw [← hs0]; unfold more; simp
  rw [hr]
  have hx := raw_xor (fun j => byteOf s j) 0#32 (~~~ s) 4
  have e2 : ∀ r, raw (fun j => byteOf s j) r 4 = step (step (step (step r (byteOf s 0)) (byteOf s 1)) (byteOf s 2)) (byteOf s 3) := fun r => rfl
  rw [e2, e2, four_bytes] at hx
  rw [show (0#32 : R) ^^^ ~~~ s = ~~~ s by simp] at hx
  rw [hx, show 8 * 4 = 32 from rfl, ← Lin.hs 32]
  congr 1
  rw [not_eq_xor, not_eq_xor, BitVec.xor_comm, BitVec.xor_assoc]
  simp
/-- Sealed bytes, of which bits within 32 in a row were turned, are no sealed bytes. -/
theorem turned (g : Nat → R) (x : R) (k n : Nat) (hx : x ≠ 0#32) (hk : k + 32 ≤ 8 * (n + 4)) (h : ∀ j, j < 4 → g (n + j) = byteOf (more g 0#32 n) j) :
    ¬ (∀ j, j < 4 → turn g x k 32 (n + j) = byteOf (more (turn g x k 32) 0#32 n) j) := by
  intro h2
  have e1 := raw_sealed g n h
  have e2 := raw_sealed _ n h2
  rw [raw_turn g x _ k (n + 4) hk 32 (Nat.le_refl _), sumBits_all, e1] at e2
  have e3 : hs (8 * (n + 4) - k) x = 0#32 := by
    have h3 : hs 32 (~~~ 0#32) ^^^ (hs 32 (~~~ 0#32) ^^^ hs (8 * (n + 4) - k) x) = hs 32 (~~~ 0#32) ^^^ hs 32 (~~~ 0#32) := by rw [e2]
    rw [← BitVec.xor_assoc, BitVec.xor_self, BitVec.zero_xor] at h3
    exact h3
  rw [← (Lin.hs (8 * (n + 4) - k)).zero] at e3
  exact hx (hs_inj e3)
theorem turn_lt {g : Nat → R} {x : R} {k : Nat} (h : ∀ j, (g j).toNat < 256) : ∀ i j, (turn g x k i j).toNat < 256 := by
  intro i
  induction i with
  | zero => exact h
  | succ i ih =>
    intro j
    simp only [turn]
    cases x.getLsbD i with
    | false => exact ih j
    | true =>
      simp only [cond_true]
      split
      · rw [BitVec.toNat_xor]
        refine Nat.xor_lt_two_pow (n := 8) (ih j) ?_
        have hb : (k + i) % 8 < 8 := Nat.mod_lt _ (by decide)
        generalize (k + i) % 8 = b at hb
        have : b = 0 ∨ b = 1 ∨ b = 2 ∨ b = 3 ∨ b = 4 ∨ b = 5 ∨ b = 6 ∨ b = 7 := by omega
        rcases this with rfl | rfl | rfl | rfl | rfl | rfl | rfl | rfl <;> decide
      · exact ih j
theorem byteOf_toNat (s : R) (j : Nat) : (byteOf s j).toNat = s.toNat / 256 ^ j % 256 := by
  unfold byteOf
  rw [BitVec.toNat_and, BitVec.toNat_ushiftRight, Nat.shiftRight_eq_div_pow, Nat.pow_mul]
  rw [show (255#32 : R).toNat = 2 ^ 8 - 1 by decide, Nat.and_two_pow_sub_one_eq_mod]
theorem sealed_bytes {gi : Nat → Int} {g : Nat → R} {n : Nat} (hg : ∀ i, gi i = ((g i).toNat : Int)) (s : R) : (∀ i, i < n + 4 → sealB gi s n i = gi i) ↔ ∀ j, j < 4 → g (n + j) = byteOf s j := by
  constructor
  · intro h j hj
    have := h (n + j) (by omega)
    rw [sealB, if_neg (by omega), hg, show n + j - n = j by omega] at this
    apply BitVec.eq_of_toNat_eq
    rw [byteOf_toNat]
    exact_mod_cast this.symm
  · intro h i hi
    unfold sealB
    split
    · rfl
    · rename_i hlt
      obtain ⟨j, rfl⟩ : ∃ j, i = n + j := ⟨i - n, by omega⟩
      rw [hg, h j (by omega), byteOf_toNat, show n + j - n = j by omega]
end Go.CrcLaw
