/-
  A verified symbolic executor over the code of the model, and what it shows of this program: part 6 of 7 (LawWalCrash).
-/
import Derived.Test.YtnjjgipblimbfaaDoorWalCrashPartE
set_option linter.unusedVariables false
set_option linter.unusedSimpArgs false
namespace Go.WalLaw
open Go.DskLaw
/-! ### Heads -/
theorem genN_congr {v w : Nat → Int} : ∀ j, (∀ i, i < j → v i = w i) → genN v j = genN w j := by
  intro j
  induction j with
  | zero => intro _; rfl
  | succ j ih =>
    intro h
    unfold genN
    rw [ih (fun i hi => h i (by omega)), h j (by omega)]
theorem genN_headB {n : Nat} (hn : n < 256 ^ 8) : ∀ j, j ≤ 8 → genN (headB n) j = n / 256 ^ (8 - j) := by
  intro j
  induction j with
  | zero => intro _; show 0 = _; rw [Nat.div_eq_of_lt hn]
  | succ j ih =>
    intro hj
    unfold genN
    rw [ih (by omega)]
    have e1 : headB n j = ((n / 256 ^ (7 - j) % 256 : Nat) : Int) := by unfold headB; rw [if_pos (by omega)]
    rw [e1, Int.toNat_natCast, show 8 - j = (7 - j) + 1 by omega, show 8 - (j + 1) = 7 - j by omega, Nat.pow_succ, ← Nat.div_div_eq_div_mul]
    omega
theorem genN_all {n : Nat} (hn : n < 256 ^ 8) : genN (headB n) 8 = n := by
  rw [genN_headB hn 8 (by omega)]
  show n / 1 = n
  exact Nat.div_one n
theorem headB_tail (n i : Nat) (hi : i < 8) : headB n (56 + i) = headB n i := by
  unfold headB
  rw [if_neg (by omega), if_pos (by omega), if_pos hi, show 63 - (56 + i) = 7 - i by omega]
theorem headB_inj {n m : Nat} (hn : n < 256 ^ 8) (hm : m < 256 ^ 8) (h : ∀ i, i < 8 → headB n i = headB m i) : n = m := by
  rw [← genN_all hn, ← genN_all hm]
  exact genN_congr 8 h
theorem headB_zero (x : Nat) : headB 0 x = 0 := by
  unfold headB
  split
  · simp
  · split
    · simp
    · rfl
theorem genIs_headB {g sec : Nat} {v : Nat → Int} (hg : g ≤ 1099511627776) (hv : ∀ x, x < 64 → v x = headB g x) (hs : g % 2 = sec ∨ g = 0) : GenIs v sec g := by
  have e : genN v 8 = g := by rw [genN_congr 8 (fun i hi => hv i (by omega)), genN_all (by omega)]
  rcases Nat.eq_zero_or_pos g with rfl | h
  · exact .inr ⟨fun q => by have := q.1; omega, rfl⟩
  · exact .inl ⟨⟨by omega, by omega, by omega, by rw [e]; exact hv⟩, e.symm⟩
theorem genIs_congr {v w : Nat → Int} {sec g : Nat} (h : ∀ x, x < 64 → v x = w x) (hg : GenIs v sec g) : GenIs w sec g := by
  have e : genN v 8 = genN w 8 := genN_congr 8 (fun i hi => h i (by omega))
  have k : GenOk v sec ↔ GenOk w sec := by
    unfold GenOk
    rw [e]
    exact ⟨fun q => ⟨q.1, q.2.1, q.2.2.1, fun i hi => by rw [← h i hi]; exact q.2.2.2 i hi⟩, fun q => ⟨q.1, q.2.1, q.2.2.1, fun i hi => by rw [h i hi]; exact q.2.2.2 i hi⟩⟩
  rcases hg with ⟨a, b⟩ | ⟨a, b⟩
  · exact .inl ⟨k.1 a, by rw [← e]; exact b⟩
  · exact .inr ⟨fun q => a (k.2 q), b⟩
/-- A torn head. -/
theorem genIs_torn {a b k n sec : Nat} {v : Nat → Int} (ha : a < 256 ^ 8) (hb : b < 256 ^ 8) (hv : ∀ x, x < 64 → v x = if x < k then headB a x else headB b x) (h : GenIs v sec n) : n = 0 ∨ n = a ∨ n = b := by
  rcases h with ⟨h, e⟩ | ⟨_, e⟩
  · have h2 : n ≤ 1099511627776 := by rw [e]; exact h.2.1
    have h3 : ∀ i, i < 64 → v i = headB n i := by rw [e]; exact h.2.2.2
    have hn : n < 256 ^ 8 := by omega
    by_cases q : k ≤ 56
    · refine .inr (.inr (headB_inj hn hb fun i hi => ?_))
      rw [← headB_tail n i hi, ← headB_tail b i hi, ← h3 _ (by omega), hv _ (by omega), if_neg (by omega)]
    · refine .inr (.inl (headB_inj hn ha fun i hi => ?_))
      rw [← h3 _ (by omega), hv _ (by omega), if_pos (by omega)]
  · exact .inl e

/-! ### Wiping -/
theorem wipeP_fr {V : Nat → Nat → Int} {ar : Bool} : ∀ (k x n : Nat) (L : Int → Option (Nat → Int)) (ca : Int) (t : Int), (wipeP V ar k x n L ca).2.1 t = L t ∨ ((x : Int) ≤ t ∧ t < ((x + k : Nat) : Int) ∧ (wipeP V ar k x n L ca).2.1 t = some (fun _ => 0)) := by
  intro k
  induction k with
  | zero => intro x n L ca t; exact .inl rfl
  | succ k ih =>
    intro x n L ca t
    by_cases ho : ar = true ∧ ca = 0
    · rw [wipeP_off ho]; exact .inl rfl
    · by_cases hb : ∀ i, i < 64 → V x i = 0
      · rw [wipeP_blank ho hb]
        rcases ih (x + 1) n L ca t with h | ⟨h1, h2, h3⟩
        · exact .inl h
        · exact .inr ⟨by omega, by omega, h3⟩
      · rw [wipeP_full ho hb]
        rcases ih (x + 1) (n + 1) (fun i => if i = (x : Int) then some (fun _ => 0) else L i) (if ar then ca - 1 else ca) t with h | ⟨h1, h2, h3⟩
        · by_cases q : t = (x : Int)
          · refine .inr ⟨by omega, by omega, ?_⟩
            rw [h]; exact if_pos q
          · left
            rw [h]; exact if_neg q
        · exact .inr ⟨by omega, by omega, h3⟩
theorem wipeP_done {V : Nat → Nat → Int} {ar : Bool} : ∀ (k x n : Nat) (L : Int → Option (Nat → Int)) (ca : Int) (m : Nat), (wipeP V ar k x n L ca).1 = some m → ∀ t : Nat, x ≤ t → t < x + k → (wipeP V ar k x n L ca).2.1 t = some (fun _ => 0) ∨ ((wipeP V ar k x n L ca).2.1 t = L t ∧ ∀ i, i < 64 → V t i = 0) := by
  intro k
  induction k with
  | zero => intro x n L ca m _ t h1 h2; omega
  | succ k ih =>
    intro x n L ca m hm t h1 h2
    by_cases ho : ar = true ∧ ca = 0
    · rw [wipeP_off ho] at hm; cases hm
    · by_cases hb : ∀ i, i < 64 → V x i = 0
      · rw [wipeP_blank ho hb] at hm ⊢
        by_cases q : t = x
        · rw [q]
          rcases wipeP_fr (V := V) (ar := ar) k (x + 1) n L ca (x : Int) with h | ⟨h3, h4, h5⟩
          · exact .inr ⟨h, hb⟩
          · omega
        · exact ih (x + 1) n L ca m hm t (by omega) (by omega)
      · rw [wipeP_full ho hb] at hm ⊢
        by_cases q : t = x
        · rw [q]
          rcases wipeP_fr (V := V) (ar := ar) k (x + 1) (n + 1) (fun i => if i = (x : Int) then some (fun _ => 0) else L i) (if ar then ca - 1 else ca) (x : Int) with h | ⟨h3, h4, h5⟩
          · left; rw [h]; exact if_pos rfl
          · exact .inl h5
        · rcases ih (x + 1) (n + 1) (fun i => if i = (x : Int) then some (fun _ => 0) else L i) (if ar then ca - 1 else ca) m hm t (by omega) (by omega) with h | ⟨h3, h4⟩
          · exact .inl h
          · exact .inr ⟨by rw [h3]; exact if_neg (by omega), h4⟩
theorem wipeP_run {V : Nat → Nat → Int} : ∀ (k x n : Nat) (L : Int → Option (Nat → Int)) (ca : Int), ∃ m, (wipeP V false k x n L ca).1 = some m := by
  intro k
  induction k with
  | zero => intro x n L ca; exact ⟨n, rfl⟩
  | succ k ih =>
    intro x n L ca
    have ho : ¬ (false = true ∧ ca = 0) := fun h => by cases h.1
    by_cases hb : ∀ i, i < 64 → V x i = 0
    · rw [wipeP_blank ho hb]; exact ih _ _ _ _
    · rw [wipeP_full ho hb]; exact ih _ _ _ _
theorem wipeD_fr {d d' : Dk} {a b : Nat} {on : Option Nat} (hw : wipeD d a b = (on, d')) (t : Int) : d'.L t = d.L t ∨ ((a : Int) ≤ t ∧ t < (b : Int) ∧ d'.L t = some (fun _ => 0)) := by
  obtain ⟨_, e2⟩ := Prod.mk.inj hw
  subst e2
  rcases wipeP_fr (V := fun i => secV d.S d.L i) (ar := d.ar) (b - a) a 0 d.L d.ca t with h | ⟨h1, h2, h3⟩
  · exact .inl h
  · exact .inr ⟨h1, by omega, h3⟩
theorem wipeD_S {d d' : Dk} {a b : Nat} {on : Option Nat} (hw : wipeD d a b = (on, d')) : d'.S = d.S ∧ d'.ar = d.ar := by
  obtain ⟨_, e2⟩ := Prod.mk.inj hw
  subst e2
  exact ⟨rfl, rfl⟩
theorem wipeD_done {d d' : Dk} {a b m : Nat} (hw : wipeD d a b = (some m, d')) (t : Nat) (h1 : a ≤ t) (h2 : t < b) (x : Nat) (hx : x < 64) : secV d'.S d'.L t x = 0 := by
  obtain ⟨e1, e2⟩ := Prod.mk.inj hw
  subst e2
  rcases wipeP_done (V := fun i => secV d.S d.L i) (ar := d.ar) (b - a) a 0 d.L d.ca m e1 t h1 (by omega) with h | ⟨h3, h4⟩
  · rw [secV_some' h]
  · have h4 : secV d.S d.L t x = 0 := h4 x hx
    cases e : d.L (t : Int) with
    | none => rw [secV_none' (h3.trans e)]; rw [secV_none' e] at h4; exact h4
    | some g => rw [secV_some' (h3.trans e)]; rw [secV_some' e] at h4; exact h4
theorem wipeD_run {d : Dk} {a b : Nat} (h : d.ar = false) : ∃ m d', wipeD d a b = (some m, d') := by
  obtain ⟨m, hm⟩ := wipeP_run (V := fun i => secV d.S d.L i) (b - a) a 0 d.L d.ca
  refine ⟨m, (wipeD d a b).2, Prod.ext ?_ rfl⟩
  show (wipeP (fun i => secV d.S d.L i) d.ar (b - a) a 0 d.L d.ca).1 = some m
  rw [h]
  exact hm

/-! ### What lies in a region -/
abbrev stN (fi : Nat) (nl : Nat → Nat) (i : Nat) : Nat := atN fi (fun i => nl i + 4) i
abbrev recB (nl : Nat → Nat) (nf : Nat → Nat → Int) (i j x : Nat) : Int := pcs (nl i + 4) (sealF (nl i) (nf i)) j x
theorem stN_succ (fi : Nat) (nl : Nat → Nat) (i : Nat) : stN fi nl (i + 1) = stN fi nl i + needN (nl i + 4) := rfl
theorem stN_mono {fi : Nat} {nl : Nat → Nat} {i j : Nat} (h : i ≤ j) : stN fi nl i ≤ stN fi nl j := atN_mono h
theorem stN_congr {fi c : Nat} {nl nl' : Nat → Nat} (h : ∀ i, i < c → nl' i = nl i) : ∀ i, i ≤ c → stN fi nl' i = stN fi nl i := by
  intro i
  induction i with
  | zero => intro _; rfl
  | succ i ih => intro hi; rw [stN_succ, stN_succ, ih (by omega), h i (by omega)]
theorem stN_in {fi c i j : Nat} {nl : Nat → Nat} (hi : i < c) (hj : j < needN (nl i + 4)) : fi ≤ stN fi nl i + j ∧ stN fi nl i + j < stN fi nl c := by
  have h1 : stN fi nl (i + 1) ≤ stN fi nl c := stN_mono (by omega)
  have h2 : stN fi nl 0 ≤ stN fi nl i := stN_mono (by omega)
  have h3 : stN fi nl 0 = fi := rfl
  rw [stN_succ] at h1
  omega

/-- A log's region: su records are sure, what waits are the pieces up to w, of c records. -/
structure LogI (d : Dk) (fi en su w c : Nat) (nl : Nat → Nat) (nf : Nat → Nat → Int) : Prop where
  hsu : 1 ≤ su ∧ su ≤ c
  hw : stN fi nl su ≤ w ∧ w ≤ stN fi nl c
  hen : stN fi nl c ≤ en
  hlen : ∀ i, i < c → nl i + 4 ≤ 65536
  recs : ∀ i, i < su → ∀ j, j < needN (nl i + 4) → ∀ x, x < 64 → d.S (64 * (stN fi nl i + j) + x) = recB nl nf i j x
  blank : ∀ t, stN fi nl su ≤ t → t < en → ∀ x, x < 64 → d.S (64 * t + x) = 0
  lin : ∀ i, i < c → ∀ j, j < needN (nl i + 4) → stN fi nl su ≤ stN fi nl i + j → stN fi nl i + j < w → ∃ g, d.L ((stN fi nl i + j : Nat) : Int) = some g ∧ ∀ x, x < 64 → g x = recB nl nf i j x
  lout : ∀ t : Nat, fi ≤ t → t < en → (t < stN fi nl su ∨ w ≤ t) → d.L (t : Int) = none
/-- The heads. -/
structure HdI (d : Dk) (g : Nat) : Prop where
  cur : ∀ x, x < 64 → d.S (64 * (g % 2) + x) = headB g x
  old : ∀ x, x < 64 → d.S (64 * ((g + 1) % 2) + x) = headB (g - 1) x
  l0 : d.L 0 = none
  l1 : d.L 1 = none
/-- A disk whose log is that of some records: nothing waits but zeros behind them. -/
structure ImgD (d : Dk) (g fi en K : Nat) (nl : Nat → Nat) (nf : Nat → Nat → Int) : Prop where
  heads : ∃ g0 g1, GenIs (fun x => d.S (64 * 0 + x)) 0 g0 ∧ GenIs (fun x => d.S (64 * 1 + x)) 1 g1 ∧ g = max g0 g1
  hK : 1 ≤ K ∧ stN fi nl K ≤ en
  hlen : ∀ i, i < K → nl i + 4 ≤ 65536
  recs : ∀ i, i < K → ∀ j, j < needN (nl i + 4) → ∀ x, x < 64 → d.S (64 * (stN fi nl i + j) + x) = recB nl nf i j x
  stop : ∃ j0, (∀ j, j < j0 → d.S (64 * (stN fi nl K + j) + 63) = 0 ∨ d.S (64 * (stN fi nl K + j) + 63) = 1) ∧ (stN fi nl K + j0 < en → d.S (64 * (stN fi nl K + j0) + 63) = 0)
  lz : ∀ k g, d.L k = some g → ∃ t : Nat, k = (t : Int) ∧ stN fi nl K ≤ t ∧ t < en ∧ ∀ x, x < 64 → g x = 0

/-- A crash. -/
def crashD (d : Dk) (ks kb : Nat → Int) (n : Nat) : Dk := ⟨(crashP d.S d.L ks kb n).1, fun _ => none, false, 0⟩
theorem crashD_S {s : Nat} {d : Dk} {ks kb : Nat → Int} {n : Nat} (ok : DkOk s d) (t x : Nat) (hx : x < 64) : (crashD d ks kb n).S (64 * t + x) = secC d.S d.L ks kb n t x := (crashP_eq (fun k g h => (ok.key k g h).1) n).2 t x hx
theorem secC_none {S : Nat → Int} {L : Int → Option (Nat → Int)} {ks kb : Nat → Int} {n t : Nat} (h : L (t : Int) = none) (x : Nat) : secC S L ks kb n t x = S (64 * t + x) := by unfold secC; rw [h]
theorem secC_some {S : Nat → Int} {L : Int → Option (Nat → Int)} {ks kb : Nat → Int} {n t : Nat} {g : Nat → Int} (h : L (t : Int) = some g) : ∃ k, k ≤ 64 ∧ ∀ x, secC S L ks kb n t x = if x < k then g x else S (64 * t + x) := by
  refine ⟨(keptB ks kb (t : Int) n).getD 0, ?_, fun x => ?_⟩
  · cases e : keptB ks kb (t : Int) n with
    | none => exact Nat.zero_le _
    | some b => exact keptB_le e
  · unfold secC; rw [h]
theorem DkOk.crash {s : Nat} {d : Dk} {ks kb : Nat → Int} {n : Nat} (ok : DkOk s d) : DkOk s (crashD d ks kb n) where
  hca := ⟨Int.le_refl 0, (by decide : (0 : Int) ≤ 9223372036854775807)⟩
  key := fun k g e => by cases e
  sb := fun x hx => by
    rw [show x = 64 * (x / 64) + x % 64 by omega, crashD_S ok (x / 64) (x % 64) (by omega)]
    cases e : d.L ((x / 64 : Nat) : Int) with
    | none => rw [secC_none e]; exact ok.sb _ (by omega)
    | some g =>
      obtain ⟨k, _, hk⟩ := secC_some (S := d.S) (ks := ks) (kb := kb) (n := n) e
      rw [hk]
      split
      · exact ok.lb _ g e _ (by omega)
      · exact ok.sb _ (by omega)
  lb := fun k g e => by cases e

theorem first_bad (P : Nat → Prop) : ∀ n, (∀ i, i < n → P i) ∨ ∃ i, i < n ∧ (∀ j, j < i → P j) ∧ ¬ P i := by
  intro n
  induction n with
  | zero => exact .inl fun i h => by omega
  | succ n ih =>
    rcases ih with h | ⟨i, a, b⟩
    · by_cases q : P n
      · refine .inl fun i hi => ?_
        by_cases e : i = n
        · rw [e]; exact q
        · exact h i (by omega)
      · exact .inr ⟨n, by omega, h, q⟩
    · exact .inr ⟨i, by omega, b⟩

/-- The marks stop the records. -/
theorem usedP_mark1 {v : Nat → Int} (h : v 63 = 1) : usedP v = none ∨ usedP v = some (62, true) := by
  by_cases q : padOk v
  · by_cases q2 : (v 62).toNat = 62
    · exact .inr (usedP_on q h q2)
    · exact .inl (usedP_none2 q h q2)
  · exact .inl (usedP_none1 q)
theorem getP_marks {V : Nat → Nat → Int} {first fin j0 : Nat} (h1 : ∀ j, j < j0 → first + j < fin → V (first + j) 63 = 0 ∨ V (first + j) 63 = 1) (h2 : first + j0 < fin → V (first + j0) 63 = 0) :
    ∀ (k j n : Nat) (f : Nat → Int), k + j = j0 → getP V first fin (fin - (first + j)) (first + j) n f = none := by
  intro k
  induction k with
  | zero =>
    intro j n f hk
    obtain rfl : j = j0 := by omega
    by_cases q : fin ≤ first + j
    · exact getP_stop q _
    · exact getP_none (by omega) (usedP_zero (h2 (by omega)))
  | succ k ih =>
    intro j n f hk
    by_cases q : fin ≤ first + j
    · exact getP_stop q _
    · rcases h1 j (by omega) (by omega) with e | e
      · exact getP_none (by omega) (usedP_zero e)
      · rcases usedP_mark1 e with u | u
        · exact getP_none (by omega) u
        · by_cases l : 65536 < n + 62
          · exact getP_long (by omega) u l
          · rw [getP_on (by omega) u l]
            exact ih (j + 1) _ _ (by omega)
theorem secV_eq {S : Nat → Int} {L : Int → Option (Nat → Int)} (h : ∀ k, L k = none) (t x : Nat) : secV S L t x = S (64 * t + x) := secV_none' (h _) x

/-- What is read of such a disk. -/
theorem ImgD.read {d : Dk} {g fi en K : Nat} {nl : Nat → Nat} {nf : Nat → Nat → Int} (h : ImgD d g fi en K nl nf) (hL : ∀ k, d.L k = none) (g0 : Nat → Nat × (Nat → Int)) :
    ∃ gs, recP (fun t => secV d.S d.L t) en (en - fi + 1) fi 0 g0 = (K, gs, stN fi nl K) ∧ Same K gs nl nf := by
  refine recP_recs (nl := nl) (nf := nf) h.hK.2 h.hlen ?_ ?_ (en - fi + 1) 0 g0 (by omega) ?_ (fun j hj => by omega)
  · intro i hi j hj x hx
    show secV d.S d.L _ x = _
    rw [secV_eq hL]
    exact h.recs i hi j hj x hx
  · obtain ⟨j0, h1, h2⟩ := h.stop
    refine getP_marks (V := fun t => secV d.S d.L t) (first := stN fi nl K) (j0 := j0) (fun j hj _ => ?_) (fun hq => ?_) j0 0 0 _ (by omega)
    · show secV d.S d.L _ 63 = 0 ∨ secV d.S d.L _ 63 = 1
      rw [secV_eq hL]
      exact h1 j hj
    · show secV d.S d.L _ 63 = 0
      rw [secV_eq hL]
      exact h2 hq
  · have h1 := h.hK.2
    have h2 : fi + K ≤ stN fi nl K := le_atN fi (fun i => nl i + 4) K
    show K - 0 < en - fi + 1
    omega
theorem ImgD.gens {d : Dk} {g fi en K : Nat} {nl : Nat → Nat} {nf : Nat → Nat → Int} (h : ImgD d g fi en K nl nf) (hL : ∀ k, d.L k = none) :
    ∃ g0 g1, GenIs (secV d.S d.L 0) 0 g0 ∧ GenIs (secV d.S d.L 1) 1 g1 ∧ g = max g0 g1 := by
  obtain ⟨g0, g1, h0, h1, e⟩ := h.heads
  exact ⟨g0, g1, genIs_congr (fun x _ => (secV_eq hL 0 x).symm) h0, genIs_congr (fun x _ => (secV_eq hL 1 x).symm) h1, e⟩
theorem ImgD.crash {s : Nat} {d : Dk} {g fi en K n : Nat} {nl : Nat → Nat} {nf : Nat → Nat → Int} {ks kb : Nat → Int} (h : ImgD d g fi en K nl nf) (ok : DkOk s d) (hf : 2 ≤ fi) : ImgD (crashD d ks kb n) g fi en K nl nf := by
  have hst : fi ≤ stN fi nl K := stN_mono (fi := fi) (nl := nl) (i := 0) (by omega)
  have lo : ∀ t x, t < stN fi nl K → x < 64 → (crashD d ks kb n).S (64 * t + x) = d.S (64 * t + x) := fun t x ht hx => by
    rw [crashD_S ok t x hx]
    refine secC_none ?_ x
    cases e : d.L (t : Int) with
    | none => rfl
    | some g =>
      obtain ⟨t', e1, e2, _⟩ := h.lz _ g e
      omega
  have hi : ∀ t, (crashD d ks kb n).S (64 * t + 63) = d.S (64 * t + 63) ∨ (crashD d ks kb n).S (64 * t + 63) = 0 := fun t => by
    rw [crashD_S ok t 63 (by omega)]
    cases e : d.L (t : Int) with
    | none => exact .inl (secC_none e 63)
    | some g =>
      obtain ⟨k, _, hk⟩ := secC_some (S := d.S) (ks := ks) (kb := kb) (n := n) e
      obtain ⟨_, _, _, _, hz⟩ := h.lz _ g e
      rw [hk]
      split
      · exact .inr (hz 63 (by omega))
      · exact .inl rfl
  refine ⟨?_, h.hK, h.hlen, ?_, ?_, fun k g e => by cases e⟩
  · obtain ⟨g0, g1, h0, h1, e⟩ := h.heads
    exact ⟨g0, g1, genIs_congr (fun x hx => (lo 0 x (by omega) hx).symm) h0, genIs_congr (fun x hx => (lo 1 x (by omega) hx).symm) h1, e⟩
  · intro i hi j hj x hx
    rw [lo _ x (stN_in hi hj).2 hx]
    exact h.recs i hi j hj x hx
  · obtain ⟨j0, h1, h2⟩ := h.stop
    refine ⟨j0, fun j hj => ?_, fun hq => ?_⟩
    · rcases hi (stN fi nl K + j) with e | e
      · rw [e]; exact h1 j hj
      · exact .inl e
    · rcases hi (stN fi nl K + j0) with e | e
      · rw [e]; exact h2 hq
      · exact e
theorem ImgD.wipe {d d' : Dk} {g fi en K : Nat} {nl : Nat → Nat} {nf : Nat → Nat → Int} {on : Option Nat} (h : ImgD d g fi en K nl nf) (hw : wipeD d (stN fi nl K) en = (on, d')) : ImgD d' g fi en K nl nf := by
  have e1 := (wipeD_S hw).1
  refine ⟨by rw [e1]; exact h.heads, h.hK, h.hlen, by rw [e1]; exact h.recs, by rw [e1]; exact h.stop, fun k g e => ?_⟩
  rcases wipeD_fr hw k with q | ⟨q1, q2, q3⟩
  · exact h.lz k g (by rw [← q]; exact e)
  · rw [q3] at e
    cases e
    exact ⟨k.toNat, by omega, by omega, by omega, fun _ _ => rfl⟩
theorem flushD_S (d : Dk) (t x : Nat) (hx : x < 64) : (flushD d).S (64 * t + x) = secV d.S d.L t x := by
  show secV d.S d.L ((64 * t + x) / 64) ((64 * t + x) % 64) = _
  rw [show (64 * t + x) / 64 = t by omega, show (64 * t + x) % 64 = x by omega]
theorem ImgD.flush {d : Dk} {g fi en K : Nat} {nl : Nat → Nat} {nf : Nat → Nat → Int} (h : ImgD d g fi en K nl nf) (hf : 2 ≤ fi) : ImgD (flushD d) g fi en K nl nf := by
  have hst : fi ≤ stN fi nl K := stN_mono (fi := fi) (nl := nl) (i := 0) (by omega)
  have lo : ∀ t x, t < stN fi nl K → x < 64 → (flushD d).S (64 * t + x) = d.S (64 * t + x) := fun t x ht hx => by
    rw [flushD_S d t x hx]
    refine secV_none' ?_ x
    cases e : d.L (t : Int) with
    | none => rfl
    | some g =>
      obtain ⟨t', e1, e2, _⟩ := h.lz _ g e
      omega
  have hi : ∀ t, (flushD d).S (64 * t + 63) = d.S (64 * t + 63) ∨ (flushD d).S (64 * t + 63) = 0 := fun t => by
    rw [flushD_S d t 63 (by omega)]
    cases e : d.L (t : Int) with
    | none => exact .inl (secV_none' e 63)
    | some g =>
      obtain ⟨_, _, _, _, hz⟩ := h.lz _ g e
      rw [secV_some' e]
      exact .inr (hz 63 (by omega))
  refine ⟨?_, h.hK, h.hlen, ?_, ?_, fun k g e => by cases e⟩
  · obtain ⟨g0, g1, h0, h1, e⟩ := h.heads
    exact ⟨g0, g1, genIs_congr (fun x hx => (lo 0 x (by omega) hx).symm) h0, genIs_congr (fun x hx => (lo 1 x (by omega) hx).symm) h1, e⟩
  · intro i hi j hj x hx
    rw [lo _ x (stN_in hi hj).2 hx]
    exact h.recs i hi j hj x hx
  · obtain ⟨j0, h1, h2⟩ := h.stop
    refine ⟨j0, fun j hj => ?_, fun hq => ?_⟩
    · rcases hi (stN fi nl K + j) with e | e
      · rw [e]; exact h1 j hj
      · exact .inl e
    · rcases hi (stN fi nl K + j0) with e | e
      · rw [e]; exact h2 hq
      · exact e
end Go.WalLaw
namespace Go.WalLaw
open Go.DskLaw
section
variable {d d' : Dk} {s g fi en su w c n : Nat} {nl nl' : Nat → Nat} {nf nf' : Nat → Nat → Int} {ks kb f : Nat → Int}
/-! ### Frames -/
theorem LogI.frame (h : LogI d fi en su w c nl nf) (hS : ∀ t x, fi ≤ t → t < en → x < 64 → d'.S (64 * t + x) = d.S (64 * t + x)) (hL : ∀ t : Nat, fi ≤ t → t < en → d'.L (t : Int) = d.L (t : Int)) : LogI d' fi en su w c nl nf where
  hsu := h.hsu
  hw := h.hw
  hen := h.hen
  hlen := h.hlen
  recs := fun i hi j hj x hx => by
    have h1 := stN_in (fi := fi) (nl := nl) (c := c) (show i < c by have := h.hsu; omega) hj
    have h2 := h.hen
    rw [hS _ x h1.1 (by omega) hx]
    exact h.recs i hi j hj x hx
  blank := fun t h1 h2 x hx => by
    have h3 : fi ≤ stN fi nl su := stN_mono (fi := fi) (nl := nl) (i := 0) (by omega)
    rw [hS _ x (by omega) h2 hx]
    exact h.blank t h1 h2 x hx
  lin := fun i hi j hj h1 h2 => by
    have h3 := stN_in (fi := fi) (nl := nl) hi hj
    have h4 := h.hen
    rw [hL _ h3.1 (by omega)]
    exact h.lin i hi j hj h1 h2
  lout := fun t h1 h2 h3 => by rw [hL t h1 h2]; exact h.lout t h1 h2 h3
theorem HdI.frame (h : HdI d g) (hS : ∀ t x, t < 2 → x < 64 → d'.S (64 * t + x) = d.S (64 * t + x)) (h0 : d'.L 0 = none) (h1 : d'.L 1 = none) : HdI d' g where
  cur := fun x hx => by rw [hS _ x (by omega) hx]; exact h.cur x hx
  old := fun x hx => by rw [hS _ x (by omega) hx]; exact h.old x hx
  l0 := h0
  l1 := h1
theorem HdI.flush (h : HdI d g) : HdI (flushD d) g :=
  h.frame (fun t x ht hx => by
    rw [flushD_S d t x hx]
    rcases (show t = 0 ∨ t = 1 by omega) with rfl | rfl
    · exact secV_none' h.l0 x
    · exact secV_none' h.l1 x) rfl rfl
theorem HdI.gens (h : HdI d g) (hg : g ≤ 1099511627776) : ∃ g0 g1, GenIs (secV d.S d.L 0) 0 g0 ∧ GenIs (secV d.S d.L 1) 1 g1 ∧ g = max g0 g1 := by
  have e0 : ∀ x, secV d.S d.L 0 x = d.S (64 * 0 + x) := fun x => secV_none' h.l0 x
  have e1 : ∀ x, secV d.S d.L 1 x = d.S (64 * 1 + x) := fun x => secV_none' h.l1 x
  rcases Nat.mod_two_eq_zero_or_one g with q | q
  · have hc := h.cur
    have ho := h.old
    rw [q] at hc
    rw [show (g + 1) % 2 = 1 by omega] at ho
    exact ⟨g, g - 1, genIs_headB hg (fun x hx => by rw [e0, hc x hx]) (.inl q), genIs_headB (by omega) (fun x hx => by rw [e1, ho x hx]) (by omega), by omega⟩
  · have hc := h.cur
    have ho := h.old
    rw [q] at hc
    rw [show (g + 1) % 2 = 0 by omega] at ho
    exact ⟨g - 1, g, genIs_headB (by omega) (fun x hx => by rw [e0, ho x hx]) (by omega), genIs_headB hg (fun x hx => by rw [e1, hc x hx]) (.inl q), by omega⟩

/-! ### A sync -/
theorem LogI.flush (h : LogI d fi en su (stN fi nl c) c nl nf) : LogI (flushD d) fi en c (stN fi nl c) c nl nf where
  hsu := by have := h.hsu; omega
  hw := ⟨Nat.le_refl _, Nat.le_refl _⟩
  hen := h.hen
  hlen := h.hlen
  recs := fun i hi j hj x hx => by
    have h1 := stN_in (fi := fi) (nl := nl) hi hj
    have h2 := h.hen
    rw [flushD_S d _ x hx]
    by_cases q : stN fi nl su ≤ stN fi nl i + j
    · obtain ⟨g, e1, e2⟩ := h.lin i hi j hj q h1.2
      rw [secV_some' e1, e2 x hx]
    · rw [secV_none' (h.lout _ h1.1 (by omega) (.inl (by omega)))]
      have h3 : i < su := by
        rcases Nat.lt_or_ge i su with r | r
        · exact r
        · have : stN fi nl su ≤ stN fi nl i := stN_mono r
          omega
      exact h.recs i h3 j hj x hx
  blank := fun t h1 h2 x hx => by
    have h3 : stN fi nl su ≤ stN fi nl c := stN_mono h.hsu.2
    have h4 : fi ≤ stN fi nl su := stN_mono (fi := fi) (nl := nl) (i := 0) (by omega)
    rw [flushD_S d _ x hx, secV_none' (h.lout t (by omega) h2 (.inr h1))]
    exact h.blank t (by omega) h2 x hx
  lin := fun i hi j hj h1 h2 => by omega
  lout := fun t _ _ _ => rfl

/-! ### A note -/
theorem putD_at (d : Dk) (first n : Nat) (f : Nat → Int) (t : Nat) : (putD d first n f).L (t : Int) = if first ≤ t ∧ t < first + putK d n then some (pcs n f (t - first)) else d.L (t : Int) := by
  show (if (first : Int) ≤ (t : Int) ∧ (t : Int) < (first : Int) + putK d n then some (pcs n f ((t : Int) - first).toNat) else d.L (t : Int)) = _
  by_cases q : first ≤ t ∧ t < first + putK d n
  · rw [if_pos (by omega), if_pos q, show ((t : Int) - (first : Int)).toNat = t - first by omega]
  · rw [if_neg (by omega), if_neg q]
theorem LogI.put (h : LogI d fi en su (stN fi nl c) c nl nf) (hn : n + 4 ≤ 65536) (hfit : stN fi nl c + needN (n + 4) ≤ en) (h1 : ∀ i, i < c → nl' i = nl i) (h2 : ∀ i, i < c → nf' i = nf i) (h3 : nl' c = n) (h4 : nf' c = f) :
    LogI (putD d (stN fi nl c) (n + 4) (sealF n f)) fi en su (stN fi nl c + putK d (n + 4)) (c + 1) nl' nf' := by
  have hk := putK_le d (n + 4)
  have es : ∀ i, i ≤ c → stN fi nl' i = stN fi nl i := stN_congr h1
  have ec : stN fi nl' (c + 1) = stN fi nl c + needN (n + 4) := by rw [stN_succ, es c (by omega), h3]
  have hsu := h.hsu
  have esu : stN fi nl' su = stN fi nl su := es su hsu.2
  have eb : ∀ i, i < c → ∀ j x, recB nl' nf' i j x = recB nl nf i j x := fun i hi j x => by unfold recB; rw [h1 i hi, h2 i hi]
  have hsc : stN fi nl su ≤ stN fi nl c := stN_mono hsu.2
  have hfs : fi ≤ stN fi nl su := stN_mono (fi := fi) (nl := nl) (i := 0) (by omega)
  refine ⟨by omega, by rw [esu, ec]; omega, by rw [ec]; exact hfit, fun i hi => ?_, fun i hi j hj x hx => ?_, fun t a b x hx => ?_, fun i hi j hj a b => ?_, fun t a b q => ?_⟩
  · by_cases q : i < c
    · rw [h1 i q]; exact h.hlen i q
    · rw [show i = c by omega, h3]; exact hn
  · rw [es i (by omega), eb i (by omega)]
    rw [h1 i (by omega)] at hj
    exact h.recs i hi j hj x hx
  · rw [esu] at a
    exact h.blank t a b x hx
  · rw [esu] at a
    by_cases q : i < c
    · rw [es i (by omega)] at a b ⊢
      rw [h1 i q] at hj
      have h5 := stN_in (fi := fi) (nl := nl) q hj
      rw [putD_at, if_neg (by omega)]
      obtain ⟨g, e1, e2⟩ := h.lin i q j hj a h5.2
      exact ⟨g, e1, fun x hx => by rw [e2 x hx, eb i q]⟩
    · obtain rfl : i = c := by omega
      rw [es i (by omega)] at a b ⊢
      rw [putD_at, if_pos (by omega)]
      refine ⟨_, rfl, fun x hx => ?_⟩
      unfold recB
      rw [h3, h4, show stN fi nl i + j - stN fi nl i = j by omega]
  · rw [esu] at q
    rw [putD_at, if_neg (by omega)]
    exact h.lout t a b (by omega)

/-! ### A crash -/
theorem LogI.left (h : LogI d fi en su w c nl nf) (ok : DkOk s d) (hes : en ≤ s) :
    ∃ K, su ≤ K ∧ K ≤ c ∧ (∀ i, i < K → ∀ j, j < needN (nl i + 4) → ∀ x, x < 64 → (crashD d ks kb n).S (64 * (stN fi nl i + j) + x) = recB nl nf i j x) ∧
      ∃ j0, (∀ j, j < j0 → (crashD d ks kb n).S (64 * (stN fi nl K + j) + 63) = 0 ∨ (crashD d ks kb n).S (64 * (stN fi nl K + j) + 63) = 1) ∧ (stN fi nl K + j0 < en → (crashD d ks kb n).S (64 * (stN fi nl K + j0) + 63) = 0) := by
  obtain ⟨C, hC⟩ : ∃ C : Nat → Nat → Int, ∀ t x, C t x = (crashD d ks kb n).S (64 * t + x) := ⟨_, fun _ _ => rfl⟩
  simp only [← hC]
  have hsu := h.hsu
  have hfs : fi ≤ stN fi nl su := stN_mono (fi := fi) (nl := nl) (i := 0) (by omega)
  have out : ∀ t x, fi ≤ t → t < en → x < 64 → (t < stN fi nl su ∨ w ≤ t) → C t x = d.S (64 * t + x) := fun t x h1 h2 hx h3 => by
    rw [hC, crashD_S ok t x hx, secC_none (h.lout t h1 h2 h3)]
  have hi0 : ∀ t, w ≤ t → t < en → C t 63 = 0 := fun t h1 h2 => by
    have := h.hw
    rw [out t 63 (by omega) h2 (by omega) (.inr h1)]
    exact h.blank t (by omega) h2 63 (by omega)
  have ink : ∀ i, i < c → ∀ j, j < needN (nl i + 4) → stN fi nl su ≤ stN fi nl i + j → (∀ x, x < 64 → C (stN fi nl i + j) x = recB nl nf i j x) ∨ C (stN fi nl i + j) 63 = 0 := fun i hi j hj hs => by
    have h1 := stN_in (fi := fi) (nl := nl) hi hj
    have h2 := h.hen
    by_cases q : stN fi nl i + j < w
    · obtain ⟨g, e1, e2⟩ := h.lin i hi j hj hs q
      obtain ⟨k, hk, ek⟩ := secC_some (S := d.S) (ks := ks) (kb := kb) (n := n) e1
      by_cases q2 : k = 64
      · refine .inl fun x hx => ?_
        rw [hC, crashD_S ok _ x hx, ek, if_pos (by omega), e2 x hx]
      · refine .inr ?_
        rw [hC, crashD_S ok _ 63 (by omega), ek, if_neg (by omega)]
        exact h.blank _ hs (by omega) 63 (by omega)
    · exact .inr (hi0 _ (by omega) (by omega))
  have whole : ∀ i, i < su → ∀ j, j < needN (nl i + 4) → ∀ x, x < 64 → C (stN fi nl i + j) x = recB nl nf i j x := fun i hi j hj x hx => by
    have h1 := stN_in (fi := fi) (nl := nl) (c := su) hi hj
    have h2 := h.hen
    have h3 : stN fi nl su ≤ stN fi nl c := stN_mono hsu.2
    rw [out _ x h1.1 (by omega) hx (.inl h1.2)]
    exact h.recs i hi j hj x hx
  rcases first_bad (fun i => ∀ j, j < needN (nl i + 4) → ∀ x, x < 64 → C (stN fi nl i + j) x = recB nl nf i j x) c with all | ⟨K, hK, hlo, hbad⟩
  · refine ⟨c, hsu.2, Nat.le_refl _, all, 0, fun j hj => by omega, fun hq => ?_⟩
    have := h.hw
    exact hi0 _ (by omega) hq
  · have hsK : su ≤ K := by
      rcases Nat.lt_or_ge K su with r | r
      · exact absurd (whole K r) hbad
      · exact r
    have hsK2 : stN fi nl su ≤ stN fi nl K := stN_mono hsK
    refine ⟨K, hsK, by omega, hlo, ?_⟩
    rcases first_bad (fun j => ∀ x, x < 64 → C (stN fi nl K + j) x = recB nl nf K j x) (needN (nl K + 4)) with all | ⟨j0, hj0, hlo2, hbad2⟩
    · exact absurd all hbad
    · refine ⟨j0, fun j hj => .inr ?_, fun hq => ?_⟩
      · rw [hlo2 j hj 63 (by omega)]
        unfold recB
        rw [pcs_63, if_pos (by unfold needN at hj0; omega)]
      · rcases ink K hK j0 hj0 (by omega) with r | r
        · exact absurd r hbad2
        · exact r
theorem LogI.crash (h : LogI d fi en su w c nl nf) (hd : HdI d g) (hg : g ≤ 1099511627776) (ok : DkOk s d) (hes : 2 ≤ fi ∧ en ≤ s) : ∃ K, su ≤ K ∧ K ≤ c ∧ ImgD (crashD d ks kb n) g fi en K nl nf := by
  obtain ⟨K, h1, h2, h3, h4⟩ := h.left (ks := ks) (kb := kb) (n := n) ok hes.2
  have hsu := h.hsu
  refine ⟨K, h1, h2, ?_, ⟨by omega, Nat.le_trans (stN_mono h2) h.hen⟩, fun i hi => h.hlen i (by omega), h3, h4, fun k g e => by cases e⟩
  obtain ⟨g0, g1, e0, e1, e⟩ := hd.gens hg
  refine ⟨g0, g1, genIs_congr (fun x hx => ?_) e0, genIs_congr (fun x hx => ?_) e1, e⟩
  · show _ = (crashD d ks kb n).S (64 * 0 + x)
    rw [crashD_S ok 0 x hx, secC_none hd.l0, secV_none' hd.l0]
  · show _ = (crashD d ks kb n).S (64 * 1 + x)
    rw [crashD_S ok 1 x hx, secC_none hd.l1, secV_none' hd.l1]
/-- Nothing is kept: what was sure. -/
theorem LogI.crash0 (h : LogI d fi en su w c nl nf) (hd : HdI d g) (hg : g ≤ 1099511627776) : ImgD (crashD d ks kb 0) g fi en su nl nf := by
  have e : (crashD d ks kb 0).S = d.S := rfl
  have hsu := h.hsu
  refine ⟨?_, ⟨by omega, Nat.le_trans (stN_mono hsu.2) h.hen⟩, fun i hi => h.hlen i (by omega), by rw [e]; exact h.recs, ⟨0, fun j hj => by omega, fun hq => by rw [e]; exact h.blank _ (Nat.le_refl _) hq 63 (by omega)⟩, fun k g e => by cases e⟩
  rw [e]
  obtain ⟨g0, g1, e0, e1, e⟩ := hd.gens hg
  exact ⟨g0, g1, genIs_congr (fun x hx => secV_none' hd.l0 x) e0, genIs_congr (fun x hx => secV_none' hd.l1 x) e1, e⟩
/-! ### A base is put down -/
/-- Nothing but a region is touched. -/
structure Fr (d d' : Dk) (a b : Nat) : Prop where
  S : d'.S = d.S
  ar : d'.ar = d.ar
  L : ∀ t : Int, t < (a : Int) ∨ (b : Int) ≤ t → d'.L t = d.L t
theorem Fr.put {a b : Nat} (hb : a + needN n ≤ b) : Fr d (putD d a n f) a b where
  S := rfl
  ar := rfl
  L := fun t ht => by
    have := putK_le d n
    show (if (a : Int) ≤ t ∧ t < (a : Int) + putK d n then some (pcs n f (t - a).toNat) else d.L t) = _
    rw [if_neg (by omega)]
theorem Fr.wipe {d2 : Dk} {a b a1 : Nat} {on : Option Nat} (h : Fr d d' a b) (h1 : a ≤ a1) (hw : wipeD d' a1 b = (on, d2)) : Fr d d2 a b where
  S := (wipeD_S hw).1.trans h.S
  ar := (wipeD_S hw).2.trans h.ar
  L := fun t ht => by
    rcases wipeD_fr hw t with e | ⟨e1, e2, _⟩
    · rw [e]; exact h.L t ht
    · omega
theorem Fr.log {a b : Nat} (hF : Fr d d' a b) (h : LogI d fi en su w c nl nf) (hd : en ≤ a ∨ b ≤ fi) : LogI d' fi en su w c nl nf :=
  h.frame (fun t x _ _ _ => by rw [hF.S]) (fun t h1 h2 => hF.L _ (by omega))
theorem Fr.head {a b : Nat} (hF : Fr d d' a b) (h : HdI d g) (ha : 2 ≤ a) : HdI d' g :=
  h.frame (fun t x _ _ => by rw [hF.S]) (by rw [hF.L 0 (by omega)]; exact h.l0) (by rw [hF.L 1 (by omega)]; exact h.l1)

/-- A base that is put down, before the flush. -/
theorem base_put {d1 d2 : Dk} {a b m nb : Nat} (hn : nb + 4 ≤ 65536) (hfit : a + needN (nb + 4) ≤ b) (hk : putK d (nb + 4) = needN (nb + 4)) (hd1 : d1 = putD d a (nb + 4) (sealF nb f)) (hw : wipeD d1 (a + needN (nb + 4)) b = (some m, d2)) (h3 : nl 0 = nb) (h4 : nf 0 = f) :
    LogI (flushD d2) a b 1 (stN a nl 1) 1 nl nf where
  hsu := by omega
  hw := ⟨Nat.le_refl _, Nat.le_refl _⟩
  hen := by rw [stN_succ, h3]; exact hfit
  hlen := fun i hi => by rw [show i = 0 by omega, h3]; exact hn
  recs := fun i hi j hj x hx => by
    obtain rfl : i = 0 := by omega
    rw [h3] at hj
    rw [flushD_S d2 _ x hx]
    have e : d2.L ((stN a nl 0 + j : Nat) : Int) = some (pcs (nb + 4) (sealF nb f) j) := by
      have e0 : stN a nl 0 = a := rfl
      rw [e0]
      rcases wipeD_fr hw ((a + j : Nat) : Int) with q | ⟨q, _, _⟩
      · rw [q, hd1, putD_at, if_pos (by omega), show a + j - a = j by omega]
      · omega
    rw [secV_some' e]
    unfold recB
    rw [h3, h4]
  blank := fun t h1 h2 x hx => by
    rw [flushD_S d2 _ x hx]
    rw [stN_succ, h3] at h1
    exact wipeD_done hw t h1 h2 x hx
  lin := fun i hi j hj h1 h2 => by omega
  lout := fun t _ _ _ => rfl

/-- What becomes of a disk, when a base is put down. -/
inductive LaidAs (d : Dk) (g a b nb : Nat) (f : Nat → Int) : Dk → Int → Int → Prop
  | early {d' : Dk} : Fr d d' a b → LaidAs d g a b nb f d' 0 6
  | flushed {d2 : Dk} : Fr d d2 a b → LaidAs d g a b nb f (flushD d2) 0 6
  | torn {d2 d3 : Dk} : Fr d d2 a b → d3 = flushD d2 → (∀ nl nf, nl 0 = nb → nf 0 = f → LogI d3 a b 1 (stN a nl 1) 1 nl nf) → LaidAs d g a b nb f (writeD d3 (g % 2) (headB g)) 0 6
  | done {d2 d3 : Dk} : Fr d d2 a b → d3 = flushD d2 → (∀ nl nf, nl 0 = nb → nf 0 = f → LogI d3 a b 1 (stN a nl 1) 1 nl nf) → LaidAs d g a b nb f (flushD (writeD d3 (g % 2) (headB g))) ((a + needN (nb + 4) : Nat) : Int) 0
theorem LayIs.laid {at' e : Int} {nb b a : Nat} (h : LayIs d g a b (nb + 4) (sealF nb f) d' at' e) (hn : nb + 4 ≤ 65536) (hfit : a + needN (nb + 4) ≤ b) : LaidAs d g a b nb f d' at' e := by
  have hF : Fr d (putD d a (nb + 4) (sealF nb f)) a b := Fr.put hfit
  cases h with
  | put hk => exact .early hF
  | wipe0 hk o1 => exact .early hF
  | wipe hk o1 hw => exact .early (hF.wipe (by omega) hw)
  | flush hk o1 hw o2 => exact .early (hF.wipe (by omega) hw)
  | write hk o1 hw o2 o3 => exact .flushed (hF.wipe (by omega) hw)
  | again hk o1 hw o2 o3 o4 => exact .torn (hF.wipe (by omega) hw) rfl (fun nl nf h3 h4 => base_put hn hfit hk rfl hw h3 h4)
  | ok hk o1 hw o2 o3 o4 => exact .done (hF.wipe (by omega) hw) rfl (fun nl nf h3 h4 => base_put hn hfit hk rfl hw h3 h4)
/-- A disk whose power does not go: all is done. -/
theorem LayIs.run {at' e : Int} {nb b a : Nat} (h : LayIs d g a b (nb + 4) (sealF nb f) d' at' e) (har : d.ar = false) : e = 0 := by
  have e0 : ∀ x : Dk, x.ar = false → ¬ offD x := fun x hx ho => by have := ho.1; rw [hx] at this; cases this
  cases h with
  | put hk =>
    have : putK d (nb + 4) = needN (nb + 4) := by unfold putK; rw [har]; rfl
    omega
  | wipe0 hk o1 => exact absurd o1 (e0 _ har)
  | wipe hk o1 hw =>
    obtain ⟨m, d3, h3⟩ := wipeD_run (d := putD d a (nb + 4) (sealF nb f)) (a := a + needN (nb + 4)) (b := b) har
    rw [hw] at h3
    cases h3
  | flush hk o1 hw o2 => exact absurd o2 (e0 _ ((wipeD_S hw).2.trans har))
  | write hk o1 hw o2 o3 => exact absurd o3 (e0 _ ((wipeD_S hw).2.trans har))
  | again hk o1 hw o2 o3 o4 => exact absurd o4 (e0 _ ((wipeD_S hw).2.trans har))
  | ok hk o1 hw o2 o3 o4 => rfl
/-- The new head. -/
theorem head_new {d3 : Dk} (hd : HdI d3 g) : HdI (flushD (writeD d3 ((g + 1) % 2) (headB (g + 1)))) (g + 1) where
  cur := fun x hx => by
    rw [flushD_S _ _ x hx, secV_some' (g := headB (g + 1)) (by show (if (((g + 1) % 2 : Nat) : Int) = (((g + 1) % 2 : Nat) : Int) then some (headB (g + 1)) else _) = _; rw [if_pos rfl])]
  old := fun x hx => by
    rw [flushD_S _ _ x hx]
    have e : (writeD d3 ((g + 1) % 2) (headB (g + 1))).L (((g + 1 + 1) % 2 : Nat) : Int) = none := by
      show (if (((g + 1 + 1) % 2 : Nat) : Int) = (((g + 1) % 2 : Nat) : Int) then some (headB (g + 1)) else d3.L _) = none
      rw [if_neg (by omega)]
      rcases Nat.mod_two_eq_zero_or_one g with q | q
      · rw [show (g + 1 + 1) % 2 = 0 by omega]; exact hd.l0
      · rw [show (g + 1 + 1) % 2 = 1 by omega]; exact hd.l1
    rw [secV_none' e]
    show d3.S _ = headB (g + 1 - 1) x
    rw [show (g + 1 + 1) % 2 = g % 2 by omega, show g + 1 - 1 = g by omega]
    exact hd.cur x hx
  l0 := rfl
  l1 := rfl
theorem LogI.headed {d3 : Dk} {h : Nat} {hb : Nat → Int} (hl : LogI d3 fi en su w c nl nf) (hf : 2 ≤ fi) (hh : h < 2) : LogI (writeD d3 h hb) fi en su w c nl nf :=
  hl.frame (fun _ _ _ _ _ => rfl) (fun t h1 h2 => by
    show (if (t : Int) = (h : Int) then some hb else d3.L (t : Int)) = _
    rw [if_neg (by omega)])
/-- A torn head: the old log, or the new base. -/
theorem torn_head {d3 : Dk} (hd : HdI d3 g) (hg : g + 1 ≤ 1099511627776) (ok : DkOk s (writeD d3 ((g + 1) % 2) (headB (g + 1)))) :
    ∃ g0 g1, GenIs (fun x => (crashD (writeD d3 ((g + 1) % 2) (headB (g + 1))) ks kb n).S (64 * 0 + x)) 0 g0 ∧ GenIs (fun x => (crashD (writeD d3 ((g + 1) % 2) (headB (g + 1))) ks kb n).S (64 * 1 + x)) 1 g1 ∧ (max g0 g1 = g ∨ max g0 g1 = g + 1) := by
  obtain ⟨D, hD⟩ : ∃ D, D = writeD d3 ((g + 1) % 2) (headB (g + 1)) := ⟨_, rfl⟩
  rw [← hD] at ok ⊢
  have e1 : D.L (((g + 1) % 2 : Nat) : Int) = some (headB (g + 1)) := by
    rw [hD]; show (if (((g + 1) % 2 : Nat) : Int) = (((g + 1) % 2 : Nat) : Int) then some (headB (g + 1)) else _) = _; rw [if_pos rfl]
  have e2 : D.L ((g % 2 : Nat) : Int) = none := by
    rw [hD]
    show (if ((g % 2 : Nat) : Int) = (((g + 1) % 2 : Nat) : Int) then some (headB (g + 1)) else d3.L _) = none
    rw [if_neg (by omega)]
    rcases Nat.mod_two_eq_zero_or_one g with q | q
    · rw [q]; exact hd.l0
    · rw [q]; exact hd.l1
  have eS : D.S = d3.S := by rw [hD]; rfl
  have c1 : ∀ x, x < 64 → (crashD D ks kb n).S (64 * (g % 2) + x) = headB g x := fun x hx => by
    rw [crashD_S ok _ x hx, secC_none e2, eS]; exact hd.cur x hx
  obtain ⟨k, hk, ek⟩ := secC_some (S := D.S) (ks := ks) (kb := kb) (n := n) e1
  have c2 : ∀ x, x < 64 → (crashD D ks kb n).S (64 * ((g + 1) % 2) + x) = if x < k then headB (g + 1) x else headB (g - 1) x := fun x hx => by
    rw [crashD_S ok _ x hx, ek, eS, hd.old x hx]
  obtain ⟨n1, h1⟩ := genIs_ex (fun x => (crashD D ks kb n).S (64 * ((g + 1) % 2) + x)) ((g + 1) % 2)
  have h2 := genIs_torn (a := g + 1) (b := g - 1) (by omega) (by omega) c2 h1
  have h3 : GenIs (fun x => (crashD D ks kb n).S (64 * (g % 2) + x)) (g % 2) g := genIs_headB (by omega) c1 (.inl rfl)
  rcases Nat.mod_two_eq_zero_or_one g with q | q
  · rw [q] at h3
    rw [show (g + 1) % 2 = 1 by omega] at h1
    exact ⟨g, n1, h3, h1, by omega⟩
  · rw [q] at h3
    rw [show (g + 1) % 2 = 0 by omega] at h1
    exact ⟨n1, g, h1, h3, by omega⟩
theorem LaidAs.fin {at' e : Int} {nb b a : Nat} (h : LaidAs d g a b nb f d' at' e) (he : e = 0) : at' = ((a + needN (nb + 4) : Nat) : Int) ∧ ∃ d2 d3, Fr d d2 a b ∧ d3 = flushD d2 ∧ (∀ nl nf, nl 0 = nb → nf 0 = f → LogI d3 a b 1 (stN a nl 1) 1 nl nf) ∧ d' = flushD (writeD d3 (g % 2) (headB g)) := by
  cases h with
  | early _ => exact absurd he (by decide)
  | flushed _ => exact absurd he (by decide)
  | torn _ _ _ => exact absurd he (by decide)
  | done h1 h2 h3 => exact ⟨rfl, _, _, h1, h2, h3, rfl⟩
theorem LaidAs.cut {at' e : Int} {nb b a : Nat} (h : LaidAs d g a b nb f d' at' e) (he : e = 6) : Fr d d' a b ∨ (∃ d2, Fr d d2 a b ∧ d' = flushD d2) ∨ ∃ d2 d3, Fr d d2 a b ∧ d3 = flushD d2 ∧ (∀ nl nf, nl 0 = nb → nf 0 = f → LogI d3 a b 1 (stN a nl 1) 1 nl nf) ∧ d' = writeD d3 (g % 2) (headB g) := by
  cases h with
  | early h => exact .inl h
  | flushed h => exact .inr (.inl ⟨_, h, rfl⟩)
  | torn h1 h2 h3 => exact .inr (.inr ⟨_, _, h1, h2, h3, rfl⟩)
  | done _ _ _ => exact absurd he (by decide)
theorem wipeP_none {V : Nat → Nat → Int} {ar : Bool} : ∀ (k x n : Nat) (L : Int → Option (Nat → Int)) (ca : Int), (wipeP V ar k x n L ca).1 = none → ar = true ∧ (wipeP V ar k x n L ca).2.2 = 0 := by
  intro k
  induction k with
  | zero => intro x n L ca h; cases h
  | succ k ih =>
    intro x n L ca h
    by_cases ho : ar = true ∧ ca = 0
    · rw [wipeP_off ho]; exact ho
    · by_cases hb : ∀ i, i < 64 → V x i = 0
      · rw [wipeP_blank ho hb] at h ⊢; exact ih _ _ _ _ h
      · rw [wipeP_full ho hb] at h ⊢; exact ih _ _ _ _ h
theorem wipeD_none {d2 : Dk} {a b : Nat} (hw : wipeD d a b = (none, d2)) : offD d2 := by
  obtain ⟨e1, e2⟩ := Prod.mk.inj hw
  subst e2
  exact wipeP_none (V := fun i => secV d.S d.L i) (b - a) a 0 d.L d.ca e1
theorem putD_off (hk : putK d n < needN n) (hca : 0 ≤ d.ca) : offD (putD d w n f) := by
  unfold putK at hk
  cases har : d.ar with
  | false => rw [har] at hk; exact absurd hk (by simp)
  | true =>
    rw [har] at hk
    refine ⟨har, ?_⟩
    show (if d.ar = true then d.ca - (putK d n : Nat) else d.ca) = 0
    rw [if_pos har]
    unfold putK
    rw [if_pos har]
    rw [if_pos rfl] at hk
    omega
/-- Cut off, the power is gone. -/
theorem LayIs.off {at' e : Int} {b a : Nat} (h : LayIs d g a b n f d' at' e) (he : e = 6) (hca : 0 ≤ d.ca) : offD d' := by
  cases h with
  | put hk => exact putD_off hk hca
  | wipe0 hk o1 => exact o1
  | wipe hk o1 hw => exact wipeD_none hw
  | flush hk o1 hw o2 => exact o2
  | write hk o1 hw o2 o3 => exact o3
  | again hk o1 hw o2 o3 o4 => exact o4
  | ok hk o1 hw o2 o3 o4 => exact absurd he (by decide)
theorem LayIs.okd {at' e : Int} {b a : Nat} (h : LayIs d g a b n f d' at' e) (ok : DkOk s d) (hfit : a + needN n ≤ b ∧ b ≤ s) (hf : ∀ i, i < n → 0 ≤ f i ∧ f i ≤ 255) (h2 : 2 ≤ s) : DkOk s d' := by
  have okp : DkOk s (putD d a n f) := ok.put (by omega) hf
  have hi2 : g % 2 < s := by omega
  cases h with
  | put hk => exact okp
  | wipe0 hk o1 => exact okp
  | wipe hk o1 hw => exact okp.wipe hfit hw
  | flush hk o1 hw o2 => exact okp.wipe hfit hw
  | write hk o1 hw o2 o3 => exact (okp.wipe hfit hw).flush o2
  | again hk o1 hw o2 o3 o4 => exact ((okp.wipe hfit hw).flush o2).write o3 hi2 (fun x _ => headB_range g x)
  | ok hk o1 hw o2 o3 o4 => exact (((okp.wipe hfit hw).flush o2).write o3 hi2 (fun x _ => headB_range g x)).flush o4
theorem LayIs.ard {at' e : Int} {b a : Nat} (h : LayIs d g a b n f d' at' e) : d'.ar = d.ar := by
  cases h with
  | put hk => rfl
  | wipe0 hk o1 => rfl
  | wipe hk o1 hw => exact (wipeD_S hw).2
  | flush hk o1 hw o2 => exact (wipeD_S hw).2
  | write hk o1 hw o2 o3 => exact (wipeD_S hw).2
  | again hk o1 hw o2 o3 o4 => exact (wipeD_S hw).2
  | ok hk o1 hw o2 o3 o4 => exact (wipeD_S hw).2
end
end Go.WalLaw
namespace Go.Proofs.YtnjjgipblimbfaaDoor.Dsk
open Go.Eng
open Go.DskLaw (q64 secV isB needN pcs getP)
open Go.WalLaw
open Go.CrcLaw (four)
set_option maxRecDepth 100000
set_option maxHeartbeats 1000000
section
variable {P : Program} {fr : Nat → Int} {N s h g fi en K su c n : Nat} {d d1 : Dk} {nl ml : Nat → Nat} {nf mf : Nat → Nat → Int} {ks kb f : Nat → Int}
theorem newest_at {G : Gl} (hP : P = Tryd.prog) (hN : N = 64 * s) (hs : 4 ≤ s ∧ s ≤ 4096) (ok : DkOk s d) (ho : ¬ offD d) {g0 g1 : Nat} (h0 : GenIs (secV d.S d.L 0) 0 g0) (h1 : GenIs (secV d.S d.L 1) 1 g1) (hg : g = max g0 g1) :
    FnTr P G 56 [.ptr 0 0] (DHd N d) 3 (Gives (.tup [.int .i64 (g : Int), .lit .i64 0]) (DHd N d) 3) :=
  newest_fn (V := fun i => secV d.S d.L i) hP ho hN hs (fun i hi => ⟨rfl, ok.bytes i (by omega)⟩) h0 h1 hg
theorem records_at (hP : P = Tryd.prog) (hfr : ∀ i, fr i = ((four i).toNat : Int)) (hN : N = 64 * s) (hr : Reg s h g fi en) (ok : DkOk s d) (ho : ¬ offD d) {c0 last : Nat} {g0 gs : Nat → Nat × (Nat → Int)} (hR0 : recP (fun t => secV d.S d.L t) en (en - fi + 1) fi 0 g0 = (c0, gs, last)) :
    FnTr P (Gf fr) 67 [.ptr 0 0, .int .i64 (g : Int)] (DHd N d) 3 (Gives (.tup [.sl 3 1 (.l 0) (.s c0), .int .i64 (last : Int)]) ((3, LgR c0 (fun i => (gs i).1) (fun i => (gs i).2)) :: DHd N d) 4) :=
  records_own hP hfr hN hr ho (V := fun t => secV d.S d.L t) (fun i hi => ⟨rfl, ok.bytes i hi⟩) hR0

/-- An opened log's blocks. -/
abbrev OpH (N : Nat) (d : Dk) (g last K : Nat) (gs : Nat → Nat × (Nat → Int)) : Hl := LgH N d g last (gs 0).1 (gs 0).2 (.s 1) (K - 1) (K - 1) false K (fun i => (gs i).1) (fun i => (gs i).2)
/-- What may be read of records is opened; if the power goes, the records stay. -/
theorem open_read (hP : P = Tryd.prog) (hfr : ∀ i, fr i = ((four i).toNat : Int)) (hN : N = 64 * s) (hr : Reg s h g fi en) (hg : 0 < g) (ok : DkOk s d) (ho : ¬ offD d) {g0 g1 last : Nat} (h0 : GenIs (secV d.S d.L 0) 0 g0) (h1 : GenIs (secV d.S d.L 1) 1 g1) (hgg : g = max g0 g1) (hK : 1 ≤ K) (hl : last ≤ en) (hK6 : K ≤ 1000000) {g0' gs : Nat → Nat × (Nat → Int)} (hR0 : recP (fun t => secV d.S d.L t) en (en - fi + 1) fi 0 g0' = (K, gs, last)) :
    ∃ on d1, wipeD d last en = (on, d1) ∧ DkOk s d1 ∧
      ((on = none ∧ FnTr P (Gf fr) 32 [.ptr 0 0] (DHd N d) 3 (Gives (.tup [.nilp, .lit .i64 6]) (DHd N d1) 3)) ∨
      (∃ m, on = some m ∧ 0 < m ∧ offD d1 ∧ FnTr P (Gf fr) 32 [.ptr 0 0] (DHd N d) 3 (Gives (.tup [.nilp, .lit .i64 6]) (DHd N d1) 3)) ∨
      (∃ m d2, on = some m ∧ DkOk s d2 ∧ (m = 0 ∧ d2 = d1 ∨ 0 < m ∧ ¬ offD d1 ∧ d2 = flushD d1) ∧ FnTr P (Gf fr) 32 [.ptr 0 0] (DHd N d) 3 (Gives (.tup [.ptr 3 0, .lit .i64 0]) (OpH N d2 g last K gs) 100))) := by
  have cN := newest_at (P := P) (G := Gf fr) hP hN hr.hs ok ho h0 h1 hgg
  have cR := records_at hP hfr hN hr ok ho hR0
  obtain ⟨⟨on, d1⟩, hw⟩ : ∃ r, wipeD d last en = r := ⟨_, rfl⟩
  have ok1 := ok.wipe ⟨hl, hr.le.2.2⟩ hw
  obtain ⟨cc, hcc⟩ : ∃ cc, K = cc + 1 := ⟨K - 1, by omega⟩
  have hcc2 : cc = K - 1 := by omega
  refine ⟨on, d1, hw, ok1, ?_⟩
  cases on with
  | none => exact .inl ⟨rfl, open_part hP hN hr hg (by omega) ok ho hl hw cN cR⟩
  | some m =>
    rcases Nat.eq_zero_or_pos m with hm | hm
    · refine .inr (.inr ⟨m, d1, rfl, ok1, .inl ⟨hm, rfl⟩, ?_⟩)
      have := open_ok0 hP hN hr hg hcc hK6 ok ho hl hm hw cN cR
      rw [hcc2] at this
      exact this
    · by_cases o1 : offD d1
      · exact .inr (.inl ⟨m, rfl, hm, o1, open_offF hP hN hr hg hcc hK6 ok ho hl hm ok1 o1 hw cN cR⟩)
      · refine .inr (.inr ⟨m, flushD d1, rfl, ok1.flush o1, .inr ⟨hm, o1, rfl⟩, ?_⟩)
        have := open_okF hP hN hr hg hcc hK6 ok ho hl hm ok1 o1 rfl hw cN cR
        rw [hcc2] at this
        exact this
theorem img_small (hr : Reg s h g fi en) (hi : ImgD d g fi en K nl nf) : K ≤ 4096 := by
  have h1 := hi.hK.2
  have h2 : fi + K ≤ stN fi nl K := DskLaw.le_atN fi (fun i => nl i + 4) K
  have h3 := hr.le
  have h4 := hr.hs
  omega
theorem open_img (hP : P = Tryd.prog) (hfr : ∀ i, fr i = ((four i).toNat : Int)) (hN : N = 64 * s) (hr : Reg s h g fi en) (hg : 0 < g) (ok : DkOk s d) (hL : ∀ k, d.L k = none) (hi : ImgD d g fi en K nl nf) :
    ∃ d2, DkOk s d2 ∧ ImgD d2 g fi en K nl nf ∧ ((d.ar = true ∧ FnTr P (Gf fr) 32 [.ptr 0 0] (DHd N d) 3 (Gives (.tup [.nilp, .lit .i64 6]) (DHd N d2) 3)) ∨
      ∃ gs last, Same K gs nl nf ∧ last = stN fi nl K ∧ (d.ar = false → d2.ar = false) ∧ FnTr P (Gf fr) 32 [.ptr 0 0] (DHd N d) 3 (Gives (.tup [.ptr 3 0, .lit .i64 0]) (OpH N d2 g last K gs) 100)) := by
  by_cases ho : offD d
  · exact ⟨d, ok, hi, .inl ⟨ho.1, open_off hP hN hr.hs ho⟩⟩
  obtain ⟨g0, g1, h0, h1, hgg⟩ := hi.gens hL
  obtain ⟨gs, hR0, hsame⟩ := hi.read hL (fun _ => (0, fun _ => 0))
  have hsm := img_small hr hi
  obtain ⟨on, d1, hw, ok1, hc⟩ := open_read hP hfr hN hr hg ok ho h0 h1 hgg hi.hK.1 hi.hK.2 (by omega) hR0
  have i1 := hi.wipe hw
  have har := (wipeD_S hw).2
  rcases hc with ⟨e, cc⟩ | ⟨m, e, hm, o1, cc⟩ | ⟨m, d2, e, ok2, hd, cc⟩
  · refine ⟨d1, ok1, i1, .inl ⟨?_, cc⟩⟩
    cases e1 : d.ar with
    | true => rfl
    | false =>
      obtain ⟨m', d', h'⟩ := wipeD_run (a := stN fi nl K) (b := en) e1
      rw [hw, e] at h'
      cases h'
  · exact ⟨d1, ok1, i1, .inl ⟨by rw [← har]; exact o1.1, cc⟩⟩
  · rcases hd with ⟨_, e2⟩ | ⟨_, o1, e2⟩
    · exact ⟨d2, ok2, by rw [e2]; exact i1, .inr ⟨gs, _, hsame, rfl, fun q => by rw [e2, har]; exact q, cc⟩⟩
    · exact ⟨d2, ok2, by rw [e2]; exact i1.flush hr.le.1, .inr ⟨gs, _, hsame, rfl, fun q => by rw [e2]; show d1.ar = false; rw [har]; exact q, cc⟩⟩
/-- With power, it is opened. -/
theorem open_run (hP : P = Tryd.prog) (hfr : ∀ i, fr i = ((four i).toNat : Int)) (hN : N = 64 * s) (hr : Reg s h g fi en) (hg : 0 < g) (ok : DkOk s d) (hL : ∀ k, d.L k = none) (hi : ImgD d g fi en K nl nf) (har : d.ar = false) :
    ∃ d2 gs last, DkOk s d2 ∧ ImgD d2 g fi en K nl nf ∧ Same K gs nl nf ∧ last = stN fi nl K ∧ d2.ar = false ∧ FnTr P (Gf fr) 32 [.ptr 0 0] (DHd N d) 3 (Gives (.tup [.ptr 3 0, .lit .i64 0]) (OpH N d2 g last K gs) 100) := by
  obtain ⟨d2, ok2, i2, h⟩ := open_img hP hfr hN hr hg ok hL hi
  rcases h with ⟨e, _⟩ | ⟨gs, last, h1, h2, h3, h4⟩
  · rw [har] at e; cases e
  · exact ⟨d2, gs, last, ok2, i2, h1, h2, h3 har, h4⟩

/-! ### A log that is alive -/
def cons0 {α : Type} (a : α) (f : Nat → α) : Nat → α
  | 0 => a
  | i + 1 => f i
structure LgSt (s h : Nat) (d : Dk) (g fi en su c bn : Nat) (b : Nat → Int) (ml : Nat → Nat) (mf : Nat → Nat → Int) : Prop where
  reg : Reg s h g fi en
  gle : 1 ≤ g ∧ g ≤ 1099511627776
  ok : DkOk s d
  log : LogI d fi en (su + 1) (stN fi (cons0 bn ml) (c + 1)) (c + 1) (cons0 bn ml) (cons0 b mf)
  hd : HdI d g
/-- Wherever a log ends. -/
abbrev atL (fi bn : Nat) (ml : Nat → Nat) (c : Nat) : Nat := stN fi (cons0 bn ml) (c + 1)
theorem cons0_at {α : Type} {a : α} {f : Nat → α} (i : Nat) : cons0 a f (i + 1) = f i := rfl
theorem Reg.disj {fi' en' : Nat} (h1 : Reg s h g fi en) (h2 : Reg s h (g + 1) fi' en') : en ≤ fi' ∨ en' ≤ fi := by
  have a1 := h1.hfi
  have a2 := h2.hfi
  have a3 := h1.hen
  have a4 := h2.hen
  rcases Nat.mod_two_eq_zero_or_one g with q | q
  · rw [q] at a1; rw [show (g + 1) % 2 = 1 by omega] at a2; omega
  · rw [q] at a1; rw [show (g + 1) % 2 = 0 by omega] at a2; omega
theorem LgSt.atle {bn : Nat} {b : Nat → Int} (st : LgSt s h d g fi en su c bn b ml mf) : atL fi bn ml c ≤ en := st.log.hen
theorem LgSt.small {bn : Nat} {b : Nat → Int} (st : LgSt s h d g fi en su c bn b ml mf) : su ≤ c ∧ c ≤ 4096 := by
  have h1 := st.log.hen
  have h2 : fi + (c + 1) ≤ stN fi (cons0 bn ml) (c + 1) := DskLaw.le_atN fi (fun i => cons0 bn ml i + 4) (c + 1)
  have h3 := st.reg.le
  have h4 := st.reg.hs
  have h5 := st.log.hsu
  omega
/-- A fresh disk: a log with a base alone. -/
theorem begin_st {bn : Nat} {b : Nat → Int} (hP : P = Tryd.prog) (hfr : ∀ i, fr i = ((four i).toNat : Int)) (hN : N = 64 * s) (hr : Reg s h 1 fi en) (hb : ∀ i, i < bn → 0 ≤ b i ∧ b i ≤ 255) (hn : bn + 4 ≤ 65536) (hnh : needN (bn + 4) ≤ h) (hS : ∀ x, d.S x = 0) (hL : ∀ k, d.L k = none) (har : d.ar = false) (hca : d.ca = 0) (ml : Nat → Nat) (mf : Nat → Nat → Int) :
    ∃ d1, d1.ar = false ∧ (∀ k, d1.L k = none) ∧ LgSt s h d1 1 fi en 0 0 bn b ml mf ∧ FnTr P (Gf fr) 23 [.ptr 0 0, By bn b] (DHd N d) 3 (Gives (.tup [.ptr 3 0, .lit .i64 0]) (LgH N d1 1 (atL fi bn ml 0) bn b (.l 0) 0 0 false 0 ml mf) 9000) := by
  have ok : DkOk s d := ⟨by rw [hca]; decide, fun k g e => (by rw [hL] at e; cases e), fun x _ => (by rw [hS]; decide), fun k g e => (by rw [hL] at e; cases e)⟩
  have h0 : HdI d 0 := ⟨fun x _ => (by rw [hS, headB_zero]), fun x _ => (by rw [hS]; exact (headB_zero x).symm), hL 0, hL 1⟩
  have hle := hr.le
  have hs := hr.hs
  have hen := hr.hen
  have ho : ¬ offD d := fun q => by have := q.1; rw [har] at this; cases this
  obtain ⟨d1, at', e, hl⟩ := layIs_ex d 1 fi en (bn + 4) (sealF bn b)
  have he : e = 0 := hl.run har
  obtain ⟨hat, d2, d3, hF, h3, hlog, hd1⟩ := (hl.laid hn (by omega)).fin he
  obtain ⟨g0, g1, e0, e1, eg⟩ := h0.gens (by omega)
  have cN := newest_at (P := P) (G := Gf fr) hP hN hs ok ho e0 e1 eg
  rcases lay_fn hP hfr hN hr hb rfl hn hnh ok hl with ⟨e6, _⟩ | ⟨_, _, cL⟩
  · omega
  have hd3 : HdI d3 0 := by rw [h3]; exact (hF.head h0 hle.1).flush
  refine ⟨d1, hl.ard.trans har, fun k => by rw [hd1]; rfl, ⟨hr, by omega, hl.okd ok ⟨by omega, hle.2.2⟩ (fun i _ => sealF_range hb i) (by omega), ?_, ?_⟩, ?_⟩
  · have hq := hlog (cons0 bn ml) (cons0 b mf) rfl rfl
    rw [hd1]
    exact (hq.headed hle.1 (by omega)).flush
  · rw [hd1]; exact head_new hd3
  · exact begin_ok hP hN hs hr.hh (by omega) (by omega) cN (by omega) rfl cL ml mf

/-- A note that is put behind the others. -/
theorem append_st {bn : Nat} {b : Nat → Int} {ml' : Nat → Nat} {mf' : Nat → Nat → Int} (hP : P = Tryd.prog) (hfr : ∀ i, fr i = ((four i).toNat : Int)) (hN : N = 64 * s) (st : LgSt s h d g fi en su c bn b ml mf) (hb : ∀ i, i < n → 0 ≤ f i ∧ f i ≤ 255) (hn : n + 4 ≤ 65536) (hml : ∀ i, ml' i = if i < c then ml i else n) (hmf : ∀ i x, mf' i x = if i < c then mf i x else f x) :
    (en < atL fi bn ml c + needN (n + 4) ∧ FnTr P (Gf fr) 26 [.ptr 3 0, By n f] (LgH N d g (atL fi bn ml c) bn b (.l 0) c su false c ml mf) 5 (Gives (.lit .i64 2) (LgH N d g (atL fi bn ml c) bn b (.l 0) c su false c ml mf) 3000)) ∨
    (∃ d1 w, DkOk s d1 ∧ offD d1 ∧ LogI d1 fi en (su + 1) w (c + 1 + 1) (cons0 bn ml') (cons0 b mf') ∧ HdI d1 g ∧ d.ar = true ∧ FnTr P (Gf fr) 26 [.ptr 3 0, By n f] (LgH N d g (atL fi bn ml c) bn b (.l 0) c su false c ml mf) 5 (Gives (.lit .i64 6) (LgH N d1 g (atL fi bn ml c) bn b (.l 0) c su true c ml mf) 3000)) ∨
    (∃ d1, d1.ar = d.ar ∧ atL fi bn ml c + needN (n + 4) ≤ en ∧ atL fi bn ml' (c + 1) = atL fi bn ml c + needN (n + 4) ∧ LgSt s h d1 g fi en su (c + 1) bn b ml' mf' ∧ FnTr P (Gf fr) 26 [.ptr 3 0, By n f] (LgH N d g (atL fi bn ml c) bn b (.l 0) c su false c ml mf) 5 (Gives (.lit .i64 0) (LgQ 5 N d1 g (atL fi bn ml' (c + 1)) bn b (.l 0) (c + 1) su false (c + 1) ml' mf') 3000)) := by
  have hat := st.atle
  have hle := st.reg.le
  have hsm := st.small
  have cf : ∀ r : Bool, (r = true ↔ needN (n + 4) ≤ en - atL fi bn ml c) → FnTr P (Gf fr) 53 [.ptr 3 0, .int .i64 (n : Int)] (LgH N d g (atL fi bn ml c) bn b (.l 0) c su false c ml mf) 5 (Gives (.bs r) (LgH N d g (atL fi bn ml c) bn b (.l 0) c su false c ml mf) 200) := fun r hr =>
    fits_fn (nn := n) hP hN st.reg hat (by omega) (by omega) rfl hr
  by_cases hfit : needN (n + 4) ≤ en - atL fi bn ml c
  · have ok := st.ok
    have e1 : ∀ i, i < c + 1 → cons0 bn ml' i = cons0 bn ml i := fun i hi => by
      cases i with
      | zero => rfl
      | succ i => rw [cons0_at, cons0_at, hml, if_pos (by omega)]
    have e2 : ∀ i, i < c + 1 → cons0 b mf' i = cons0 b mf i := fun i hi => by
      cases i with
      | zero => rfl
      | succ i => rw [cons0_at, cons0_at]; funext x; rw [hmf, if_pos (by omega)]
    have e3 : cons0 bn ml' (c + 1) = n := by rw [cons0_at, hml, if_neg (by omega)]
    have e4 : cons0 b mf' (c + 1) = f := by rw [cons0_at]; funext x; rw [hmf, if_neg (by omega)]
    have hput := LogI.put (nl' := cons0 bn ml') (nf' := cons0 b mf') st.log hn (by show atL fi bn ml c + _ ≤ _; omega) e1 e2 e3 e4
    obtain ⟨d1, hd1⟩ : ∃ d1, d1 = putD d (atL fi bn ml c) (n + 4) (sealF n f) := ⟨_, rfl⟩
    have hput : LogI d1 fi en (su + 1) (atL fi bn ml c + putK d (n + 4)) (c + 1 + 1) (cons0 bn ml') (cons0 b mf') := by rw [hd1]; exact hput
    have okp : DkOk s d1 := by rw [hd1]; exact ok.put (by omega) (fun i _ => sealF_range hb i)
    have hh : HdI d1 g := by rw [hd1]; exact (Fr.put (d := d) (f := sealF n f) (b := en) (by omega)).head st.hd (by
      have : fi ≤ atL fi bn ml c := stN_mono (fi := fi) (nl := cons0 bn ml) (i := 0) (by omega)
      omega)
    have cF := cf true ⟨fun _ => hfit, fun _ => rfl⟩
    rcases Nat.lt_or_ge (putK d (n + 4)) (needN (n + 4)) with hk | hk
    · refine .inr (.inl ⟨d1, _, okp, by rw [hd1]; exact putD_off hk ok.hca.1, hput, hh, ?_, ?_⟩)
      · cases e : d.ar with
        | true => rfl
        | false => unfold putK at hk; rw [e] at hk; simp at hk
      · exact append_part (nl := ml) (nf := mf) (mf := fun _ => sealF n f) hP hfr rfl hN st.reg hb hn rfl (fun i _ => rfl) ok (by omega) hk hd1 cF
    · have hk : putK d (n + 4) = needN (n + 4) := Nat.le_antisymm (putK_le _ _) hk
      have ea : atL fi bn ml' (c + 1) = atL fi bn ml c + needN (n + 4) := by
        show stN fi (cons0 bn ml') (c + 1 + 1) = _
        rw [stN_succ, e3, stN_congr e1 _ (Nat.le_refl _)]
      refine .inr (.inr ⟨d1, by rw [hd1]; rfl, by omega, ea, ⟨st.reg, st.gle, okp, ?_, hh⟩, ?_⟩)
      · rw [hk, ← ea] at hput; exact hput
      · exact append_ok (nl := ml) (nf := mf) (ml := ml') (mf := mf') (n := n) (m := n + 4) hP hfr rfl hN st.reg hb hn rfl (fun i _ => rfl) (fun i _ => rfl) ok (by omega) hk hd1 ea (by omega) rfl hml hmf cF
  · exact .inl ⟨by omega, append_full hP rfl (cf false ⟨fun h => (by cases h), fun h => absurd h hfit⟩)⟩
/-- With power and room. -/
theorem append_run {bn : Nat} {b : Nat → Int} {ml' : Nat → Nat} {mf' : Nat → Nat → Int} (hP : P = Tryd.prog) (hfr : ∀ i, fr i = ((four i).toNat : Int)) (hN : N = 64 * s) (st : LgSt s h d g fi en su c bn b ml mf) (hb : ∀ i, i < n → 0 ≤ f i ∧ f i ≤ 255) (hn : n + 4 ≤ 65536) (hml : ∀ i, ml' i = if i < c then ml i else n) (hmf : ∀ i x, mf' i x = if i < c then mf i x else f x) (har : d.ar = false) (hfit : atL fi bn ml c + needN (n + 4) ≤ en) :
    ∃ d1, d1.ar = false ∧ atL fi bn ml' (c + 1) = atL fi bn ml c + needN (n + 4) ∧ LgSt s h d1 g fi en su (c + 1) bn b ml' mf' ∧ FnTr P (Gf fr) 26 [.ptr 3 0, By n f] (LgH N d g (atL fi bn ml c) bn b (.l 0) c su false c ml mf) 5 (Gives (.lit .i64 0) (LgQ 5 N d1 g (atL fi bn ml' (c + 1)) bn b (.l 0) (c + 1) su false (c + 1) ml' mf') 3000) := by
  rcases append_st hP hfr hN st hb hn hml hmf with ⟨q, _⟩ | ⟨_, _, _, _, _, _, q, _⟩ | ⟨d1, e1, _, e2, e3, e4⟩
  · omega
  · rw [har] at q; cases q
  · exact ⟨d1, e1.trans har, e2, e3, e4⟩
theorem sync_st {bn : Nat} {b : Nat → Int} {G : Gl} (hP : P = Tryd.prog) (hN : N = 64 * s) (st : LgSt s h d g fi en su c bn b ml mf) (ho : ¬ offD d) :
    ∃ d1, d1.ar = d.ar ∧ (∀ k, d1.L k = none) ∧ LgSt s h d1 g fi en c c bn b ml mf ∧ FnTr P G 28 [.ptr 3 0] (LgH N d g (atL fi bn ml c) bn b (.l 0) c su false c ml mf) 5 (Gives (.lit .i64 0) (LgH N d1 g (atL fi bn ml c) bn b (.l 0) c c false c ml mf) 100) :=
  ⟨flushD d, rfl, fun _ => rfl, ⟨st.reg, st.gle, st.ok.flush ho, st.log.flush, st.hd.flush⟩, sync_ok hP rfl hN ⟨by have := st.reg.hs; omega, st.reg.hs.2⟩ st.ok ho rfl⟩
end
end Go.Proofs.YtnjjgipblimbfaaDoor.Dsk
namespace Go.Proofs.YtnjjgipblimbfaaDoor.Dsk
open Go.Eng
open Go.DskLaw (q64 secV isB needN pcs getP)
open Go.WalLaw
open Go.CrcLaw (four)
set_option maxRecDepth 100000
set_option maxHeartbeats 4000000
theorem lit_byte (l : List Int) (h : ∀ x ∈ l, 0 ≤ x ∧ x ≤ 255) (i : Nat) : 0 ≤ l.getD i 0 ∧ l.getD i 0 ≤ 255 := by
  rcases Nat.lt_or_ge i l.length with q | q
  · rw [List.getD_eq_getElem?_getD, List.getElem?_eq_getElem q]; exact h _ (List.getElem_mem q)
  · rw [List.getD_eq_getElem?_getD, List.getElem?_eq_none q]; decide
/-- What happens in the short run. -/
theorem lives27_facts {P : Program} (hP : P = Tryd.prog) {fr : Nat → Int} (hfr : ∀ i, fr i = ((four i).toNat : Int)) {z bb b1 b2 b3 : Nat → Int} {L0 : Int → Option (Nat → Int)} (hz : ∀ x, z x = 0) (hL : ∀ k, L0 k = none) (rb : ∀ i, 0 ≤ bb i ∧ bb i ≤ 255) (r1 : ∀ i, 0 ≤ b1 i ∧ b1 i ≤ 255) (r2 : ∀ i, 0 ≤ b2 i ∧ b2 i ≤ 255) (r3 : ∀ i, 0 ≤ b3 i ∧ b3 i ≤ 255) :
    ∃ (d1 d2 d3 d4 d5 d6 d7 d8 : Dk) (m0 m1 m2 m3 : Nat → Nat) (n0 n1 n2 n3 : Nat → Nat → Int) (gl nl : Nat → Nat) (gf nf : Nat → Nat → Int) (w0 : Nat) (wf : Nat → Int),
      FnTr P (Gf fr) 32 [.ptr 0 0] (DHd 640 ⟨z, L0, false, 0⟩) 3 (Gives (.tup [.nilp, .lit .i64 4]) (DHd 640 ⟨z, L0, false, 0⟩) 3) ∧
      FnTr P (Gf fr) 23 [.ptr 0 0, By 4 bb] (DHd 640 ⟨z, L0, false, 0⟩) 3 (Gives (.tup [.ptr 3 0, .lit .i64 0]) (LgH 640 d1 1 7 4 bb (.l 0) 0 0 false 0 m0 n0) 9000) ∧
      FnTr P (Gf fr) 26 [.ptr 3 0, By 3 b1] (LgH 640 d1 1 7 4 bb (.l 0) 0 0 false 0 m0 n0) 5 (Gives (.lit .i64 0) (LgQ 5 640 d2 1 8 4 bb (.l 0) 1 0 false 1 m1 n1) 3000) ∧
      FnTr P (Gf fr) 26 [.ptr 3 0, By 0 z] (LgH 640 d2 1 8 4 bb (.l 0) 1 0 false 1 m1 n1) 5 (Gives (.lit .i64 0) (LgQ 5 640 d3 1 9 4 bb (.l 0) 2 0 false 2 m2 n2) 3000) ∧
      FnTr P (Gf fr) 28 [.ptr 3 0] (LgH 640 d3 1 9 4 bb (.l 0) 2 0 false 2 m2 n2) 5 (Gives (.lit .i64 0) (LgH 640 d4 1 9 4 bb (.l 0) 2 2 false 2 m2 n2) 100) ∧
      FnTr P (Gf fr) 26 [.ptr 3 0, By 4 b2] (LgH 640 d4 1 9 4 bb (.l 0) 2 2 false 2 m2 n2) 5 (Gives (.lit .i64 0) (LgQ 5 640 d5 1 10 4 bb (.l 0) 3 2 false 3 m3 n3) 3000) ∧
      FnTr P (Gf fr) 40 [.ptr 0 0, .ro 2 (.s 0) (fun e => [.int .i64 (z e.val), .int .i64 (z e.val)])] (DHd 640 d5) 3 (Gives (.tup []) (DHd 640 d6) 3) ∧
      FnTr P (Gf fr) 32 [.ptr 0 0] (DHd 640 d6) 3 (Gives (.tup [.ptr 3 0, .lit .i64 0]) (LgH 640 d7 1 9 w0 wf (.s 1) 2 2 false 3 gl gf) 100) ∧
      FnTr P (Gf fr) 35 [.ptr 3 0] (LgH 640 d7 1 9 w0 wf (.s 1) 2 2 false 3 gl gf) 5 (Gives (NtS 2 nl nf) (LgH 640 d7 1 9 w0 wf (.s 1) 2 2 false 3 gl gf) 6) ∧
      (nl 0 = 3 ∧ nl 1 = 0 ∧ ∀ x, x < 3 → nf 0 x = b1 x) ∧
      FnTr P (Gf fr) 26 [.ptr 3 0, By 59 z] (LgH 640 d7 1 9 w0 wf (.s 1) 2 2 false 3 gl gf) 5 (Gives (.lit .i64 2) (LgH 640 d7 1 9 w0 wf (.s 1) 2 2 false 3 gl gf) 3000) ∧
      FnTr P (Gf fr) 38 [.ptr 3 0, By 3 b3] (LgH 640 d7 1 9 w0 wf (.s 1) 2 2 false 3 gl gf) 5 (Gives (.lit .i64 0) (LgQ 5 640 d8 2 3 3 b3 (.l 0) 0 0 false 0 m0 n0) 5000) := by
  obtain ⟨m0, hm0⟩ : ∃ m0 : Nat → Nat, m0 = fun _ => 0 := ⟨_, rfl⟩
  obtain ⟨n0, hn0⟩ : ∃ n0 : Nat → Nat → Int, n0 = fun _ _ => 0 := ⟨_, rfl⟩
  obtain ⟨m1, hm1⟩ : ∃ m1 : Nat → Nat, ∀ i, m1 i = if i < 0 then m0 i else 3 := ⟨_, fun _ => rfl⟩
  obtain ⟨n1, hn1⟩ : ∃ n1 : Nat → Nat → Int, ∀ i x, n1 i x = if i < 0 then n0 i x else b1 x := ⟨_, fun _ _ => rfl⟩
  obtain ⟨m2, hm2⟩ : ∃ m2 : Nat → Nat, ∀ i, m2 i = if i < 1 then m1 i else 0 := ⟨_, fun _ => rfl⟩
  obtain ⟨n2, hn2⟩ : ∃ n2 : Nat → Nat → Int, ∀ i x, n2 i x = if i < 1 then n1 i x else z x := ⟨_, fun _ _ => rfl⟩
  obtain ⟨m3, hm3⟩ : ∃ m3 : Nat → Nat, ∀ i, m3 i = if i < 2 then m2 i else 4 := ⟨_, fun _ => rfl⟩
  obtain ⟨n3, hn3⟩ : ∃ n3 : Nat → Nat → Int, ∀ i x, n3 i x = if i < 2 then n2 i x else b2 x := ⟨_, fun _ _ => rfl⟩
  have rz : ∀ i, 0 ≤ z i ∧ z i ≤ 255 := fun i => by rw [hz]; decide
  have reg1 : Reg 10 4 1 6 10 := ⟨by omega, rfl, by omega, rfl, rfl⟩
  have reg2 : Reg 10 4 2 2 6 := ⟨by omega, rfl, by omega, rfl, rfl⟩
  have ok0 : DkOk 10 ⟨z, L0, false, 0⟩ := ⟨(by show (0 : Int) ≤ 0 ∧ (0 : Int) ≤ _; decide), fun k g e => (by have e : L0 k = some g := e; rw [hL] at e; cases e), fun x _ => rz x, fun k g e => (by have e : L0 k = some g := e; rw [hL] at e; cases e)⟩
  have off0 : ∀ d : Dk, d.ar = false → ¬ offD d := fun d h q => by have := q.1; rw [h] at this; cases this
  have hd0 : HdI ⟨z, L0, false, 0⟩ 0 := ⟨fun x _ => (by show z _ = _; rw [hz, headB_zero]), fun x _ => (by show z _ = _; rw [hz]; exact (headB_zero x).symm), hL 0, hL 1⟩
  obtain ⟨g0, g1, e0, e1, eg⟩ := hd0.gens (by omega)
  have cO := open_none (P := P) (G := Gf fr) (N := 640) (s := 10) hP rfl (by omega) rfl (newest_at hP rfl (by omega) ok0 (off0 _ rfl) e0 e1 eg)
  obtain ⟨d1, ar1, _, st1, cB⟩ := begin_st hP hfr (N := 640) (d := ⟨z, L0, false, 0⟩) rfl reg1 (bn := 4) (b := bb) (fun i _ => rb i) (by omega) (by decide) hz hL rfl rfl m0 n0
  have a1 : atL 6 4 m0 0 = 7 := by show 6 + needN 8 = 7; decide
  obtain ⟨d2, ar2, a2, st2, cA⟩ := append_run hP hfr (N := 640) rfl st1 (fun i _ => r1 i) (by omega) hm1 hn1 ar1 (by rw [a1]; decide)
  have a2 : atL 6 4 m1 1 = 8 := a2.trans (by rw [a1]; decide)
  obtain ⟨d3, ar3, a3, st3, cA2⟩ := append_run hP hfr (N := 640) rfl st2 (n := 0) (f := z) (fun i _ => rz i) (by omega) hm2 hn2 ar2 (by rw [a2]; decide)
  have a3 : atL 6 4 m2 2 = 9 := a3.trans (by rw [a2]; decide)
  obtain ⟨d4, ar4, _, st4, cS⟩ := sync_st (P := P) (G := Gf fr) (N := 640) hP rfl st3 (off0 _ ar3)
  obtain ⟨d5, ar5, a5, st5, cA3⟩ := append_run hP hfr (N := 640) rfl st4 (n := 4) (f := b2) (fun i _ => r2 i) (by omega) hm3 hn3 (ar4.trans ar3) (by rw [a3]; decide)
  have a5 : atL 6 4 m3 3 = 10 := a5.trans (by rw [a3]; decide)
  have ok6 : DkOk 10 (crashD d5 z z 0) := st5.ok.crash
  have i6 : ImgD (crashD d5 z z 0) 1 6 10 3 (cons0 4 m3) (cons0 bb n3) := st5.log.crash0 st5.hd (by omega)
  have cC := crash_fn (P := P) (G := Gf fr) (N := 640) (s := 10) (n := 0) (S := d5.S) (L := d5.L) (S' := (crashD d5 z z 0).S) (L' := (crashD d5 z z 0).L) (ar := d5.ar) (ca := d5.ca) (ks := z) (kb := z) hP rfl (by omega) (by omega) st5.ok.key (fun x _ => rfl) (fun _ => rfl)
  obtain ⟨d7, gs, last, ok7, i7, same7, hlast, ar7, cO7⟩ := open_run hP hfr (N := 640) rfl reg1 (by omega) ok6 (fun _ => rfl) i6 rfl
  have hm30 : m3 0 = 3 := by rw [hm3, if_pos (by omega), hm2, if_pos (by omega), hm1, if_neg (by omega)]
  have hm31 : m3 1 = 0 := by rw [hm3, if_pos (by omega), hm2, if_neg (by omega)]
  have el : last = 9 := by
    rw [hlast]
    show stN 6 (cons0 4 m3) 2 + needN (cons0 4 m3 2 + 4) = 9
    show 6 + needN 8 + needN (m3 0 + 4) + needN (m3 1 + 4) = 9
    rw [hm30, hm31]
    decide
  rw [el] at cO7
  obtain ⟨nl, hnl⟩ : ∃ nl : Nat → Nat, ∀ i, nl i = (gs (1 + i)).1 := ⟨_, fun _ => rfl⟩
  obtain ⟨nf, hnf⟩ : ∃ nf : Nat → Nat → Int, ∀ i x, nf i x = (gs (1 + i)).2 x := ⟨_, fun _ _ => rfl⟩
  have s1 := same7 1 (by omega)
  have s2 := same7 2 (by omega)
  have s10 : (gs 1).1 = 3 := s1.1.trans hm30
  have s20 : (gs 2).1 = 0 := s2.1.trans hm31
  have cN := notes_fn (P := P) (G := Gf fr) (N := 640) (gen := 1) (at1 := 9) (nb := (gs 0).1) (b := (gs 0).2) (su := 2) (d := d7) (dead := false) (o := .s 1) (c := 2) (cn := 3) (nl := fun i => (gs i).1) (nf := fun i => (gs i).2) (ml := nl) (mf := nf) hP (.inr ⟨1, rfl⟩) rfl (by omega) (fun i hi => ⟨hnl i, by
    rw [hnl]
    rcases (show i = 0 ∨ i = 1 by omega) with rfl | rfl
    · rw [s10]; omega
    · rw [s20]; omega⟩) (fun i _ x => hnf i x)
  have cF := append_full (P := P) (G := Gf fr) (f := z) (n := 59) hP rfl (fits_fn (P := P) (G := Gf fr) (N := 640) (d := d7) (gen := 1) (at1 := 9) (nb := (gs 0).1) (b := (gs 0).2) (o := .s 1) (c := 2) (su := 2) (dead := false) (cn := 3) (nl := fun i => (gs i).1) (nf := fun i => (gs i).2) (n := (59 : Nat)) (nn := 59) (m := 2) (r := false) hP rfl reg1 (by omega) rfl (by omega) (by decide) ⟨fun h => (by cases h), fun h => absurd h (by decide)⟩)
  obtain ⟨d8, at', e, hl⟩ := layIs_ex d7 2 2 6 7 (sealF 3 b3)
  have he : e = 0 := hl.run (nb := 3) ar7
  rcases lay_fn (N := 640) hP hfr rfl reg2 (nb := 3) (fun i _ => r3 i) rfl (by omega) (by decide) ok7 hl with ⟨e6, _⟩ | ⟨_, _, cL⟩
  · omega
  rw [show 2 + needN (3 + 4) = 3 by decide] at cL
  have cW := switch_ok (P := P) (N := 640) (s := 10) (h := 4) (gen := 1) (at1 := 9) (nb := (gs 0).1) (b := (gs 0).2) (o := .s 1) (c := 2) (su := 2) (cn := 3) (dead := false) (nl := fun i => (gs i).1) (nf := fun i => (gs i).2) (at2 := 3) (ml := m0) (mf := n0) hP rfl rfl (by omega) rfl (by omega) (by decide) (by omega) rfl cL
  rw [a1] at cB cA
  rw [a2] at cA cA2
  rw [a3] at cA2 cS cA3
  rw [a5] at cA3
  exact ⟨d1, d2, d3, d4, d5, _, d7, d8, m0, m1, m2, m3, n0, n1, n2, n3, _, nl, _, nf, _, _, cO, cB, cA, cA2, cS, cA3, cC, cO7, cN, ⟨by rw [hnl]; exact s10, by rw [hnl]; exact s20, fun x hx => by
    rw [hnf, s1.2 x (by rw [hm30.symm] at hx; exact hx)]
    show n3 0 x = _
    rw [hn3, if_pos (by omega), hn2, if_pos (by omega), hn1, if_neg (by omega)]⟩, cF, cW⟩
end Go.Proofs.YtnjjgipblimbfaaDoor.Dsk
namespace Go.Proofs.YtnjjgipblimbfaaDoor.Dsk
open Go.Eng
open Go.DskLaw (q64 secV isB needN pcs getP)
open Go.WalLaw
open Go.CrcLaw (four)
set_option maxRecDepth 100000
set_option maxHeartbeats 4000000
theorem three_bytes {n : Nat} {f : Nat → Int} {a b c : Nat} (hn : n = 3) (h0 : f 0 = (a : Int)) (h1 : f 1 = (b : Int)) (h2 : f 2 = (c : Int)) : Ar.real.eqL (Ar.real.bytes n f) [UInt8.ofNat a, UInt8.ofNat b, UInt8.ofNat c] = true := by
  subst hn
  show ([UInt8.ofNat (f 0).toNat, UInt8.ofNat (f 1).toNat, UInt8.ofNat (f 2).toNat] == [UInt8.ofNat a, UInt8.ofNat b, UInt8.ofNat c]) = true
  rw [h0, h1, h2]
  exact beq_self_eq_true _
theorem lives27_fn {P : Program} (hP : P = Tryd.prog) {fr : Nat → Int} (hfr : ∀ i, fr i = ((four i).toNat : Int)) : FnTr P (Gf fr) 21 [] [] 0 (Gives (.bl true) [] 40000) := by
  obtain ⟨z, hz⟩ : ∃ z : Nat → Int, ∀ x, z x = 0 := ⟨fun _ => 0, fun _ => rfl⟩
  obtain ⟨L0, hL0⟩ : ∃ L0 : Int → Option (Nat → Int), ∀ k, L0 k = none := ⟨fun _ => none, fun _ => rfl⟩
  obtain ⟨bb, hbb⟩ : ∃ bb : Nat → Int, ∀ i, bb i = ([98, 97, 115, 101] : List Int).getD i 0 := ⟨_, fun _ => rfl⟩
  obtain ⟨b1, hb1⟩ : ∃ b1 : Nat → Int, ∀ i, b1 i = ([111, 110, 101] : List Int).getD i 0 := ⟨_, fun _ => rfl⟩
  obtain ⟨b2, hb2⟩ : ∃ b2 : Nat → Int, ∀ i, b2 i = ([108, 111, 115, 116] : List Int).getD i 0 := ⟨_, fun _ => rfl⟩
  obtain ⟨b3, hb3⟩ : ∃ b3 : Nat → Int, ∀ i, b3 i = ([110, 101, 119] : List Int).getD i 0 := ⟨_, fun _ => rfl⟩
  obtain ⟨d1, d2, d3, d4, d5, d6, d7, d8, m0, m1, m2, m3, n0, n1, n2, n3, gl, nl, gf, nf, w0, wf, cO, cB, cA, cA2, cS, cA3, cC, cO7, cN, hN, cF, cW⟩ := lives27_facts (P := P) hP hfr (z := z) (bb := bb) (b1 := b1) (b2 := b2) (b3 := b3) hz hL0 (fun i => (by rw [hbb]; exact lit_byte _ (by decide) i)) (fun i => (by rw [hb1]; exact lit_byte _ (by decide) i)) (fun i => (by rw [hb2]; exact lit_byte _ (by decide) i)) (fun i => (by rw [hb3]; exact lit_byte _ (by decide) i))
  have c1 := new_ok (P := P) (G := Gf fr) (n := 10) (s := 10) (N := 640) (S := z) (L := L0) hP rfl (by omega) rfl hz hL0
  have reg2 : Reg 10 4 2 2 6 := ⟨by omega, rfl, by omega, rfl, rfl⟩
  have e1 := base_fn (P := P) (G := Gf fr) (N := 640) (gen := 2) (at1 := 3) (nb := 3) (b := b3) (o := .l 0) (c := 0) (su := 0) (cn := 0) (d := d8) (dead := false) (nl := m0) (nf := n0) hP (by omega)
  have e2 := notes_fn (P := P) (G := Gf fr) (N := 640) (gen := 2) (at1 := 3) (nb := 3) (b := b3) (o := .l 0) (c := 0) (su := 0) (cn := 0) (d := d8) (dead := false) (nl := m0) (nf := n0) (ml := m0) (mf := n0) hP (.inl rfl) rfl (by omega) (fun i hi => by omega) (fun i hi => by omega)
  have e3 := generation_fn (P := P) (G := Gf fr) (N := 640) (gen := 2) (at1 := 3) (nb := 3) (b := b3) (o := .l 0) (c := 0) (su := 0) (cn := 0) (d := d8) (dead := false) (nl := m0) (nf := n0) hP
  have e4 := room_fn (P := P) (G := Gf fr) (N := 640) (gen := 2) (at1 := 3) (nb := 3) (b := b3) (o := .l 0) (c := 0) (su := 0) (cn := 0) (d := d8) (dead := false) (nl := m0) (nf := n0) hP rfl reg2 (by omega)
  have e5 := sureof_fn (P := P) (G := Gf fr) (N := 640) (gen := 2) (at1 := 3) (nb := 3) (b := b3) (o := .l 0) (c := 0) (su := 0) (cn := 0) (d := d8) (dead := false) (nl := m0) (nf := n0) hP
  have e6 := fits_fn (P := P) (G := Gf fr) (N := 640) (gen := 2) (at1 := 3) (nb := 3) (b := b3) (o := .l 0) (c := 0) (su := 0) (cn := 0) (d := d8) (dead := false) (nl := m0) (nf := n0) (n := 58) (nn := 58) (m := 1) (r := true) hP rfl reg2 (by omega) rfl (by omega) (by decide) ⟨fun _ => by decide, fun _ => rfl⟩
  have e7 := sync_nil (P := P) (G := Gf fr) hP
  have hT : T.Ok P := hP ▸ T_ok
  refine FnTr.intro (fn := Tryd.f21) (c := bodyOf Tryd.f21) (by rw [hP]; rfl) rfl rfl hT ?_
  generalize hA : Ar.real = A
  generalize hK : Gives _ _ _ = K
  cbv
  refine CS.le hA (c1) [] rfl rfl rfl ?_ ?_ ?_
  · (try cbv) <;> (repeat' (first | exact trivial | exact rfl | apply And.intro | exact fun _ => rfl | (intro _ hle; first | refine chunk_le hA rfl hle rfl ?_ | refine cat_le hA ?_ | refine upd_le hA ?_ | (try cbv)))) <;> (try (subst hA; (try simp only [natCast_eq] at *); (try (simp only [Ar.real, NV.val, Int.ofNat_eq_natCast, Int.toNat_natCast])); first | done | omega | decide | exact inR64 (by omega) (by omega) | (refine ⟨?_, ?_⟩ <;> first | omega | decide | exact inR64 (by omega) (by omega))))
  · (try cbv) <;> (repeat' (first | exact trivial | exact rfl | apply And.intro | exact fun _ => rfl | (intro _ hle; first | refine chunk_le hA rfl hle rfl ?_ | refine cat_le hA ?_ | refine upd_le hA ?_ | (try cbv))))
  cbv
  refine CS.le hA (cO) [(1, 0), (2, 1), (3, 2)] rfl rfl rfl ?_ ?_ ?_
  · (try cbv) <;> (repeat' (first | exact trivial | exact rfl | apply And.intro | exact fun _ => rfl | (intro _ hle; first | refine chunk_le hA rfl hle rfl ?_ | refine cat_le hA ?_ | refine upd_le hA ?_ | (try cbv)))) <;> (try (subst hA; (try simp only [natCast_eq] at *); (try (simp only [Ar.real, NV.val, Int.ofNat_eq_natCast, Int.toNat_natCast])); first | done | omega | decide | exact inR64 (by omega) (by omega) | (refine ⟨?_, ?_⟩ <;> first | omega | decide | exact inR64 (by omega) (by omega))))
  · (try cbv) <;> (repeat' (first | exact trivial | exact rfl | apply And.intro | exact fun _ => rfl | (intro _ hle; first | refine chunk_le hA rfl hle rfl ?_ | refine cat_le hA ?_ | refine upd_le hA ?_ | (try cbv))))
  cbv
  refine CS.frzA hA (by (try cbv) <;> (repeat' (first | exact trivial | exact rfl | apply And.intro | exact fun _ => rfl | (intro _ hle; first | refine chunk_le hA rfl hle rfl ?_ | refine cat_le hA ?_ | refine upd_le hA ?_ | (try cbv)))); all_goals (subst hA; (try simp only [natCast_eq] at *); (try (simp only [Ar.real, NV.val, Int.ofNat_eq_natCast, Int.toNat_natCast])); first | done | omega | decide | exact inR64 (by omega) (by omega) | (refine ⟨?_, ?_⟩ <;> first | omega | decide | exact inR64 (by omega) (by omega)))) ?_
  cbv
  refine CS.le hA (cB) [(1, 0), (2, 1), (3, 2)] rfl rfl rfl ?_ ?_ ?_
  · (try cbv) <;> (repeat' (first | exact trivial | exact rfl | apply And.intro | exact fun _ => rfl | (intro _ hle; first | refine chunk_le hA rfl hle rfl ?_ | refine cat_le hA ?_ | refine upd_le hA ?_ | (try cbv)))) <;> (try (subst hA; (try simp only [natCast_eq] at *); (try (simp only [Ar.real, NV.val, Int.ofNat_eq_natCast, Int.toNat_natCast])); first | done | omega | decide | exact inR64 (by omega) (by omega) | (refine ⟨?_, ?_⟩ <;> first | omega | decide | exact inR64 (by omega) (by omega)))) <;> (try first | exact (hbb _))
  · (try cbv) <;> (repeat' (first | exact trivial | exact rfl | apply And.intro | exact fun _ => rfl | (intro _ hle; first | refine chunk_le hA rfl hle rfl ?_ | refine cat_le hA ?_ | refine upd_le hA ?_ | (try cbv)))) <;> (try first | exact (hbb _))
  cbv
  refine CS.frzA hA (by (try cbv) <;> (repeat' (first | exact trivial | exact rfl | apply And.intro | exact fun _ => rfl | (intro _ hle; first | refine chunk_le hA rfl hle rfl ?_ | refine cat_le hA ?_ | refine upd_le hA ?_ | (try cbv)))); all_goals (subst hA; (try simp only [natCast_eq] at *); (try (simp only [Ar.real, NV.val, Int.ofNat_eq_natCast, Int.toNat_natCast])); first | done | omega | decide | exact inR64 (by omega) (by omega) | (refine ⟨?_, ?_⟩ <;> first | omega | decide | exact inR64 (by omega) (by omega)))) ?_
  cbv
  refine CS.le hA (cA) [(1, 0), (2, 1), (3, 2), (30, 3), (31, 4)] rfl rfl rfl ?_ ?_ ?_
  · (try cbv) <;> (repeat' (first | exact trivial | exact rfl | apply And.intro | exact fun _ => rfl | (intro _ hle; first | refine chunk_le hA rfl hle rfl ?_ | refine cat_le hA ?_ | refine upd_le hA ?_ | (try cbv)))) <;> (try (subst hA; (try simp only [natCast_eq] at *); (try (simp only [Ar.real, NV.val, Int.ofNat_eq_natCast, Int.toNat_natCast])); first | done | omega | decide | exact inR64 (by omega) (by omega) | (refine ⟨?_, ?_⟩ <;> first | omega | decide | exact inR64 (by omega) (by omega)))) <;> (try first | exact (hb1 _))
  · (try cbv) <;> (repeat' (first | exact trivial | exact rfl | apply And.intro | exact fun _ => rfl | (intro _ hle; first | refine chunk_le hA rfl hle rfl ?_ | refine cat_le hA ?_ | refine upd_le hA ?_ | (try cbv)))) <;> (try first | exact (hb1 _))
  cbv
  refine CS.le hA (cA2) [(1, 0), (2, 1), (3, 2), (30, 3), (9046, 4)] rfl rfl rfl ?_ ?_ ?_
  · (try cbv) <;> (repeat' (first | exact trivial | exact rfl | apply And.intro | exact fun _ => rfl | (intro _ hle; first | refine chunk_le hA rfl hle rfl ?_ | refine cat_le hA ?_ | refine upd_le hA ?_ | (try cbv)))) <;> (try (subst hA; (try simp only [natCast_eq] at *); (try (simp only [Ar.real, NV.val, Int.ofNat_eq_natCast, Int.toNat_natCast])); first | done | omega | decide | exact inR64 (by omega) (by omega) | (refine ⟨?_, ?_⟩ <;> first | omega | decide | exact inR64 (by omega) (by omega))))
  · (try cbv) <;> (repeat' (first | exact trivial | exact rfl | apply And.intro | exact fun _ => rfl | (intro _ hle; first | refine chunk_le hA rfl hle rfl ?_ | refine cat_le hA ?_ | refine upd_le hA ?_ | (try cbv))))
  cbv
  refine CS.le hA (cS) [(1, 0), (2, 1), (3, 2), (30, 3), (12047, 4)] rfl rfl rfl ?_ ?_ ?_
  · (try cbv) <;> (repeat' (first | exact trivial | exact rfl | apply And.intro | exact fun _ => rfl | (intro _ hle; first | refine chunk_le hA rfl hle rfl ?_ | refine cat_le hA ?_ | refine upd_le hA ?_ | (try cbv)))) <;> (try (subst hA; (try simp only [natCast_eq] at *); (try (simp only [Ar.real, NV.val, Int.ofNat_eq_natCast, Int.toNat_natCast])); first | done | omega | decide | exact inR64 (by omega) (by omega) | (refine ⟨?_, ?_⟩ <;> first | omega | decide | exact inR64 (by omega) (by omega))))
  · (try cbv) <;> (repeat' (first | exact trivial | exact rfl | apply And.intro | exact fun _ => rfl | (intro _ hle; first | refine chunk_le hA rfl hle rfl ?_ | refine cat_le hA ?_ | refine upd_le hA ?_ | (try cbv))))
  cbv
  refine CS.frzA hA (by (try cbv) <;> (repeat' (first | exact trivial | exact rfl | apply And.intro | exact fun _ => rfl | (intro _ hle; first | refine chunk_le hA rfl hle rfl ?_ | refine cat_le hA ?_ | refine upd_le hA ?_ | (try cbv)))); all_goals (subst hA; (try simp only [natCast_eq] at *); (try (simp only [Ar.real, NV.val, Int.ofNat_eq_natCast, Int.toNat_natCast])); first | done | omega | decide | exact inR64 (by omega) (by omega) | (refine ⟨?_, ?_⟩ <;> first | omega | decide | exact inR64 (by omega) (by omega)))) ?_
  cbv
  refine CS.le hA (cA3) [(1, 0), (2, 1), (3, 2), (30, 3), (12047, 4)] rfl rfl rfl ?_ ?_ ?_
  · (try cbv) <;> (repeat' (first | exact trivial | exact rfl | apply And.intro | exact fun _ => rfl | (intro _ hle; first | refine chunk_le hA rfl hle rfl ?_ | refine cat_le hA ?_ | refine upd_le hA ?_ | (try cbv)))) <;> (try (subst hA; (try simp only [natCast_eq] at *); (try (simp only [Ar.real, NV.val, Int.ofNat_eq_natCast, Int.toNat_natCast])); first | done | omega | decide | exact inR64 (by omega) (by omega) | (refine ⟨?_, ?_⟩ <;> first | omega | decide | exact inR64 (by omega) (by omega)))) <;> (try first | exact (hb2 _))
  · (try cbv) <;> (repeat' (first | exact trivial | exact rfl | apply And.intro | exact fun _ => rfl | (intro _ hle; first | refine chunk_le hA rfl hle rfl ?_ | refine cat_le hA ?_ | refine upd_le hA ?_ | (try cbv)))) <;> (try first | exact (hb2 _))
  cbv
  refine CS.le hA (cC) [(1, 0), (2, 1), (3, 2)] rfl rfl rfl ?_ ?_ ?_
  · (try cbv) <;> (repeat' (first | exact trivial | exact rfl | apply And.intro | exact fun _ => rfl | (intro _ hle; first | refine chunk_le hA rfl hle rfl ?_ | refine cat_le hA ?_ | refine upd_le hA ?_ | (try cbv)))) <;> (try (subst hA; (try simp only [natCast_eq] at *); (try (simp only [Ar.real, NV.val, Int.ofNat_eq_natCast, Int.toNat_natCast])); first | done | omega | decide | exact inR64 (by omega) (by omega) | (refine ⟨?_, ?_⟩ <;> first | omega | decide | exact inR64 (by omega) (by omega))))
  · (try cbv) <;> (repeat' (first | exact trivial | exact rfl | apply And.intro | exact fun _ => rfl | (intro _ hle; first | refine chunk_le hA rfl hle rfl ?_ | refine cat_le hA ?_ | refine upd_le hA ?_ | (try cbv))))
  cbv
  refine CS.le hA (cO7) [(1, 0), (2, 1), (3, 2)] rfl rfl rfl ?_ ?_ ?_
  · (try cbv) <;> (repeat' (first | exact trivial | exact rfl | apply And.intro | exact fun _ => rfl | (intro _ hle; first | refine chunk_le hA rfl hle rfl ?_ | refine cat_le hA ?_ | refine upd_le hA ?_ | (try cbv)))) <;> (try (subst hA; (try simp only [natCast_eq] at *); (try (simp only [Ar.real, NV.val, Int.ofNat_eq_natCast, Int.toNat_natCast])); first | done | omega | decide | exact inR64 (by omega) (by omega) | (refine ⟨?_, ?_⟩ <;> first | omega | decide | exact inR64 (by omega) (by omega))))
  · (try cbv) <;> (repeat' (first | exact trivial | exact rfl | apply And.intro | exact fun _ => rfl | (intro _ hle; first | refine chunk_le hA rfl hle rfl ?_ | refine cat_le hA ?_ | refine upd_le hA ?_ | (try cbv))))
  cbv
  refine CS.ren 30 [(18158, 30), (18159, 31)] rfl rfl ?_
  cbv
  refine CS.leR hA (cN) (.ro 1 (.l 2) (fun e => [.ro 1 (.s (nl e.val)) (fun x => [.int .u8 (nf e.val x.val)])])) [(1, 0), (2, 1), (3, 2), (30, 3), (31, 4)] rfl rfl rfl ?_ ?_ ?_ ?_
  · (try cbv) <;> (repeat' (first | exact trivial | exact rfl | apply And.intro | exact fun _ => rfl | (intro _ hle; first | refine chunk_le hA rfl hle rfl ?_ | refine cat_le hA ?_ | refine upd_le hA ?_ | (try cbv)))) <;> (try (subst hA; (try simp only [natCast_eq] at *); (try (simp only [Ar.real, NV.val, Int.ofNat_eq_natCast, Int.toNat_natCast])); first | done | omega | decide | exact inR64 (by omega) (by omega) | (refine ⟨?_, ?_⟩ <;> first | omega | decide | exact inR64 (by omega) (by omega))))
  · (try cbv) <;> (repeat' (first | exact trivial | exact rfl | apply And.intro | exact fun _ => rfl | (intro _ hle; first | refine chunk_le hA rfl hle rfl ?_ | refine cat_le hA ?_ | refine upd_le hA ?_ | (try cbv)))) <;> (try (subst hA; (try simp only [natCast_eq] at *); (try (simp only [Ar.real, NV.val, Int.ofNat_eq_natCast, Int.toNat_natCast])); first | done | omega | decide | exact inR64 (by omega) (by omega) | (refine ⟨?_, ?_⟩ <;> first | omega | decide | exact inR64 (by omega) (by omega))))
  · (try cbv) <;> (repeat' (first | exact trivial | exact rfl | apply And.intro | exact fun _ => rfl | (intro _ hle; first | refine chunk_le hA rfl hle rfl ?_ | refine cat_le hA ?_ | refine upd_le hA ?_ | (try cbv))))
  cbv
  refine ⟨⟨(by (subst hA; (try simp only [natCast_eq] at *); (try (simp only [Ar.real, NV.val, Int.ofNat_eq_natCast, Int.toNat_natCast])); first | done | omega | decide | exact inR64 (by omega) (by omega) | (refine ⟨?_, ?_⟩ <;> first | omega | decide | exact inR64 (by omega) (by omega)))), (by (subst hA; (try simp only [natCast_eq] at *); (try (simp only [Ar.real, NV.val, Int.ofNat_eq_natCast, Int.toNat_natCast])); first | done | omega | decide | exact inR64 (by omega) (by omega) | (refine ⟨?_, ?_⟩ <;> first | omega | decide | exact inR64 (by omega) (by omega)))), (by (subst hA; (try simp only [natCast_eq] at *); (try (simp only [Ar.real, NV.val, Int.ofNat_eq_natCast, Int.toNat_natCast])); first | done | omega | decide | exact inR64 (by omega) (by omega) | (refine ⟨?_, ?_⟩ <;> first | omega | decide | exact inR64 (by omega) (by omega)))), (by (subst hA; (try simp only [natCast_eq] at *); (try (simp only [Ar.real, NV.val, Int.ofNat_eq_natCast, Int.toNat_natCast])); first | done | omega | decide | exact inR64 (by omega) (by omega) | (refine ⟨?_, ?_⟩ <;> first | omega | decide | exact inR64 (by omega) (by omega))))⟩, ?_⟩
  refine CS.frzA hA (by (try cbv) <;> (repeat' (first | exact trivial | exact rfl | apply And.intro | exact fun _ => rfl | (intro _ hle; first | refine chunk_le hA rfl hle rfl ?_ | refine cat_le hA ?_ | refine upd_le hA ?_ | (try cbv)))); all_goals (subst hA; (try simp only [natCast_eq] at *); (try (simp only [Ar.real, NV.val, Int.ofNat_eq_natCast, Int.toNat_natCast])); first | done | omega | decide | exact inR64 (by omega) (by omega) | (refine ⟨?_, ?_⟩ <;> first | omega | decide | exact inR64 (by omega) (by omega)))) ?_
  cbv
  refine CS.le hA (cF) [(1, 0), (2, 1), (3, 2), (30, 3), (31, 4)] rfl rfl rfl ?_ ?_ ?_
  · (try cbv) <;> (repeat' (first | exact trivial | exact rfl | apply And.intro | exact fun _ => rfl | (intro _ hle; first | refine chunk_le hA rfl hle rfl ?_ | refine cat_le hA ?_ | refine upd_le hA ?_ | (try cbv)))) <;> (try (subst hA; (try simp only [natCast_eq] at *); (try (simp only [Ar.real, NV.val, Int.ofNat_eq_natCast, Int.toNat_natCast])); first | done | omega | decide | exact inR64 (by omega) (by omega) | (refine ⟨?_, ?_⟩ <;> first | omega | decide | exact inR64 (by omega) (by omega)))) <;> (try first | exact (hz _).symm)
  · (try cbv) <;> (repeat' (first | exact trivial | exact rfl | apply And.intro | exact fun _ => rfl | (intro _ hle; first | refine chunk_le hA rfl hle rfl ?_ | refine cat_le hA ?_ | refine upd_le hA ?_ | (try cbv)))) <;> (try first | exact (hz _).symm)
  cbv
  refine CS.frzA hA (by (try cbv) <;> (repeat' (first | exact trivial | exact rfl | apply And.intro | exact fun _ => rfl | (intro _ hle; first | refine chunk_le hA rfl hle rfl ?_ | refine cat_le hA ?_ | refine upd_le hA ?_ | (try cbv)))); all_goals (subst hA; (try simp only [natCast_eq] at *); (try (simp only [Ar.real, NV.val, Int.ofNat_eq_natCast, Int.toNat_natCast])); first | done | omega | decide | exact inR64 (by omega) (by omega) | (refine ⟨?_, ?_⟩ <;> first | omega | decide | exact inR64 (by omega) (by omega)))) ?_
  cbv
  refine CS.le hA (cW) [(1, 0), (2, 1), (3, 2), (30, 3), (31, 4)] rfl rfl rfl ?_ ?_ ?_
  · (try cbv) <;> (repeat' (first | exact trivial | exact rfl | apply And.intro | exact fun _ => rfl | (intro _ hle; first | refine chunk_le hA rfl hle rfl ?_ | refine cat_le hA ?_ | refine upd_le hA ?_ | (try cbv)))) <;> (try (subst hA; (try simp only [natCast_eq] at *); (try (simp only [Ar.real, NV.val, Int.ofNat_eq_natCast, Int.toNat_natCast])); first | done | omega | decide | exact inR64 (by omega) (by omega) | (refine ⟨?_, ?_⟩ <;> first | omega | decide | exact inR64 (by omega) (by omega)))) <;> (try first | exact (hb3 _))
  · (try cbv) <;> (repeat' (first | exact trivial | exact rfl | apply And.intro | exact fun _ => rfl | (intro _ hle; first | refine chunk_le hA rfl hle rfl ?_ | refine cat_le hA ?_ | refine upd_le hA ?_ | (try cbv)))) <;> (try first | exact (hb3 _))
  cbv
  refine ⟨fun e _ => rfl, ?_⟩
  have k1 : A.eqL (A.bytes (nl (NV.l 0).val) (byteAt fun x => [SV.int IntKind.u8 (nf (NV.l 0).val x.val)])) [111, 110, 101] = true := by
    subst hA
    exact three_bytes (a := 111) (b := 110) (c := 101) hN.1 (by show nf 0 0 = _; rw [hN.2.2 0 (by omega), hb1]; rfl) (by show nf 0 1 = _; rw [hN.2.2 1 (by omega), hb1]; rfl) (by show nf 0 2 = _; rw [hN.2.2 2 (by omega), hb1]; rfl)
  have k2 : A.eq (A.i2 (nl (NV.l 1).val)) 0 = true := by subst hA; show decide (((nl 1 : Nat) : Int) = 0) = true; rw [hN.2.1]; rfl
  first | refine testR k1 rfl ?_ | refine testL k1 rfl ?_
  cbv
  first | refine testR k2 rfl ?_ | refine testL k2 rfl ?_
  cbv
  refine CS.ren 30 [(30, 30), (3050, 31)] rfl rfl ?_
  cbv
  refine CS.le hA (e1) [(1, 0), (2, 1), (3, 2), (30, 3), (31, 4)] rfl rfl rfl ?_ ?_ ?_
  · (try cbv) <;> (repeat' (first | exact trivial | exact rfl | apply And.intro | exact fun _ => rfl | (intro _ hle; first | refine chunk_le hA rfl hle rfl ?_ | refine cat_le hA ?_ | refine upd_le hA ?_ | (try cbv)))) <;> (try (subst hA; (try simp only [natCast_eq] at *); (try (simp only [Ar.real, NV.val, Int.ofNat_eq_natCast, Int.toNat_natCast])); first | done | omega | decide | exact inR64 (by omega) (by omega) | (refine ⟨?_, ?_⟩ <;> first | omega | decide | exact inR64 (by omega) (by omega))))
  · (try cbv) <;> (repeat' (first | exact trivial | exact rfl | apply And.intro | exact fun _ => rfl | (intro _ hle; first | refine chunk_le hA rfl hle rfl ?_ | refine cat_le hA ?_ | refine upd_le hA ?_ | (try cbv))))
  cbv
  have k3 : A.eqL (A.bytes 3 (byteAt fun e => [SV.int IntKind.u8 (b3 e.val)])) [110, 101, 119] = true := by
    subst hA
    exact three_bytes (a := 110) (b := 101) (c := 119) rfl (by show b3 0 = _; rw [hb3]; rfl) (by show b3 1 = _; rw [hb3]; rfl) (by show b3 2 = _; rw [hb3]; rfl)
  refine ⟨fun e _ => rfl, ?_⟩
  first | refine testR k3 rfl ?_ | refine testL k3 rfl ?_
  cbv
  refine CS.leR hA (e2) (.ro 1 (.l 0) (fun e => [.any])) [(1, 0), (2, 1), (3, 2), (30, 3), (31, 4)] rfl rfl rfl ?_ ?_ ?_ ?_
  · (try cbv) <;> (repeat' (first | exact trivial | exact rfl | apply And.intro | exact fun _ => rfl | (intro _ hle; first | refine chunk_le hA rfl hle rfl ?_ | refine cat_le hA ?_ | refine upd_le hA ?_ | (try cbv)))) <;> (try (subst hA; (try simp only [natCast_eq] at *); (try (simp only [Ar.real, NV.val, Int.ofNat_eq_natCast, Int.toNat_natCast])); first | done | omega | decide | exact inR64 (by omega) (by omega) | (refine ⟨?_, ?_⟩ <;> first | omega | decide | exact inR64 (by omega) (by omega))))
  · (try cbv) <;> (repeat' (first | exact trivial | exact rfl | apply And.intro | exact fun _ => rfl | (intro _ hle; first | refine chunk_le hA rfl hle rfl ?_ | refine cat_le hA ?_ | refine upd_le hA ?_ | (try cbv)))) <;> (try (subst hA; (try simp only [natCast_eq] at *); (try (simp only [Ar.real, NV.val, Int.ofNat_eq_natCast, Int.toNat_natCast])); first | done | omega | decide | exact inR64 (by omega) (by omega) | (refine ⟨?_, ?_⟩ <;> first | omega | decide | exact inR64 (by omega) (by omega))))
  · (try cbv) <;> (repeat' (first | exact trivial | exact rfl | apply And.intro | exact fun _ => rfl | (intro _ hle; first | refine chunk_le hA rfl hle rfl ?_ | refine cat_le hA ?_ | refine upd_le hA ?_ | (try cbv))))
  cbv
  refine CS.leR hA (e3) (.lit .i64 2) [(1, 0), (2, 1), (3, 2), (30, 3), (31, 4)] rfl rfl rfl ?_ ?_ ?_ ?_
  · (try cbv) <;> (repeat' (first | exact trivial | exact rfl | apply And.intro | exact fun _ => rfl | (intro _ hle; first | refine chunk_le hA rfl hle rfl ?_ | refine cat_le hA ?_ | refine upd_le hA ?_ | (try cbv)))) <;> (try (subst hA; (try simp only [natCast_eq] at *); (try (simp only [Ar.real, NV.val, Int.ofNat_eq_natCast, Int.toNat_natCast])); first | done | omega | decide | exact inR64 (by omega) (by omega) | (refine ⟨?_, ?_⟩ <;> first | omega | decide | exact inR64 (by omega) (by omega))))
  · (try cbv) <;> (repeat' (first | exact trivial | exact rfl | apply And.intro | exact fun _ => rfl | (intro _ hle; first | refine chunk_le hA rfl hle rfl ?_ | refine cat_le hA ?_ | refine upd_le hA ?_ | (try cbv)))) <;> (try (subst hA; (try simp only [natCast_eq] at *); (try (simp only [Ar.real, NV.val, Int.ofNat_eq_natCast, Int.toNat_natCast])); first | done | omega | decide | exact inR64 (by omega) (by omega) | (refine ⟨?_, ?_⟩ <;> first | omega | decide | exact inR64 (by omega) (by omega))))
  · (try cbv) <;> (repeat' (first | exact trivial | exact rfl | apply And.intro | exact fun _ => rfl | (intro _ hle; first | refine chunk_le hA rfl hle rfl ?_ | refine cat_le hA ?_ | refine upd_le hA ?_ | (try cbv))))
  cbv
  refine CS.leR hA (e4) (.lit .i64 3) [(1, 0), (2, 1), (3, 2), (30, 3), (31, 4)] rfl rfl rfl ?_ ?_ ?_ ?_
  · (try cbv) <;> (repeat' (first | exact trivial | exact rfl | apply And.intro | exact fun _ => rfl | (intro _ hle; first | refine chunk_le hA rfl hle rfl ?_ | refine cat_le hA ?_ | refine upd_le hA ?_ | (try cbv)))) <;> (try (subst hA; (try simp only [natCast_eq] at *); (try (simp only [Ar.real, NV.val, Int.ofNat_eq_natCast, Int.toNat_natCast])); first | done | omega | decide | exact inR64 (by omega) (by omega) | (refine ⟨?_, ?_⟩ <;> first | omega | decide | exact inR64 (by omega) (by omega))))
  · (try cbv) <;> (repeat' (first | exact trivial | exact rfl | apply And.intro | exact fun _ => rfl | (intro _ hle; first | refine chunk_le hA rfl hle rfl ?_ | refine cat_le hA ?_ | refine upd_le hA ?_ | (try cbv)))) <;> (try (subst hA; (try simp only [natCast_eq] at *); (try (simp only [Ar.real, NV.val, Int.ofNat_eq_natCast, Int.toNat_natCast])); first | done | omega | decide | exact inR64 (by omega) (by omega) | (refine ⟨?_, ?_⟩ <;> first | omega | decide | exact inR64 (by omega) (by omega))))
  · (try cbv) <;> (repeat' (first | exact trivial | exact rfl | apply And.intro | exact fun _ => rfl | (intro _ hle; first | refine chunk_le hA rfl hle rfl ?_ | refine cat_le hA ?_ | refine upd_le hA ?_ | (try cbv))))
  cbv
  refine CS.leR hA (e5) (.lit .i64 0) [(1, 0), (2, 1), (3, 2), (30, 3), (31, 4)] rfl rfl rfl ?_ ?_ ?_ ?_
  · (try cbv) <;> (repeat' (first | exact trivial | exact rfl | apply And.intro | exact fun _ => rfl | (intro _ hle; first | refine chunk_le hA rfl hle rfl ?_ | refine cat_le hA ?_ | refine upd_le hA ?_ | (try cbv)))) <;> (try (subst hA; (try simp only [natCast_eq] at *); (try (simp only [Ar.real, NV.val, Int.ofNat_eq_natCast, Int.toNat_natCast])); first | done | omega | decide | exact inR64 (by omega) (by omega) | (refine ⟨?_, ?_⟩ <;> first | omega | decide | exact inR64 (by omega) (by omega))))
  · (try cbv) <;> (repeat' (first | exact trivial | exact rfl | apply And.intro | exact fun _ => rfl | (intro _ hle; first | refine chunk_le hA rfl hle rfl ?_ | refine cat_le hA ?_ | refine upd_le hA ?_ | (try cbv)))) <;> (try (subst hA; (try simp only [natCast_eq] at *); (try (simp only [Ar.real, NV.val, Int.ofNat_eq_natCast, Int.toNat_natCast])); first | done | omega | decide | exact inR64 (by omega) (by omega) | (refine ⟨?_, ?_⟩ <;> first | omega | decide | exact inR64 (by omega) (by omega))))
  · (try cbv) <;> (repeat' (first | exact trivial | exact rfl | apply And.intro | exact fun _ => rfl | (intro _ hle; first | refine chunk_le hA rfl hle rfl ?_ | refine cat_le hA ?_ | refine upd_le hA ?_ | (try cbv))))
  cbv
  refine CS.leR hA (e6) (.bl true) [(1, 0), (2, 1), (3, 2), (30, 3), (31, 4)] rfl rfl rfl ?_ ?_ ?_ ?_
  · (try cbv) <;> (repeat' (first | exact trivial | exact rfl | apply And.intro | exact fun _ => rfl | (intro _ hle; first | refine chunk_le hA rfl hle rfl ?_ | refine cat_le hA ?_ | refine upd_le hA ?_ | (try cbv)))) <;> (try (subst hA; (try simp only [natCast_eq] at *); (try (simp only [Ar.real, NV.val, Int.ofNat_eq_natCast, Int.toNat_natCast])); first | done | omega | decide | exact inR64 (by omega) (by omega) | (refine ⟨?_, ?_⟩ <;> first | omega | decide | exact inR64 (by omega) (by omega))))
  · (try cbv) <;> (repeat' (first | exact trivial | exact rfl | apply And.intro | exact fun _ => rfl | (intro _ hle; first | refine chunk_le hA rfl hle rfl ?_ | refine cat_le hA ?_ | refine upd_le hA ?_ | (try cbv)))) <;> (try (subst hA; (try simp only [natCast_eq] at *); (try (simp only [Ar.real, NV.val, Int.ofNat_eq_natCast, Int.toNat_natCast])); first | done | omega | decide | exact inR64 (by omega) (by omega) | (refine ⟨?_, ?_⟩ <;> first | omega | decide | exact inR64 (by omega) (by omega))))
  · (try cbv) <;> (repeat' (first | exact trivial | exact rfl | apply And.intro | exact fun _ => rfl | (intro _ hle; first | refine chunk_le hA rfl hle rfl ?_ | refine cat_le hA ?_ | refine upd_le hA ?_ | (try cbv))))
  cbv
  refine CS.leR hA (e7) (.lit .i64 7) [] rfl rfl rfl ?_ ?_ ?_ ?_
  · (try cbv) <;> (repeat' (first | exact trivial | exact rfl | apply And.intro | exact fun _ => rfl | (intro _ hle; first | refine chunk_le hA rfl hle rfl ?_ | refine cat_le hA ?_ | refine upd_le hA ?_ | (try cbv)))) <;> (try (subst hA; (try simp only [natCast_eq] at *); (try (simp only [Ar.real, NV.val, Int.ofNat_eq_natCast, Int.toNat_natCast])); first | done | omega | decide | exact inR64 (by omega) (by omega) | (refine ⟨?_, ?_⟩ <;> first | omega | decide | exact inR64 (by omega) (by omega))))
  · (try cbv) <;> (repeat' (first | exact trivial | exact rfl | apply And.intro | exact fun _ => rfl | (intro _ hle; first | refine chunk_le hA rfl hle rfl ?_ | refine cat_le hA ?_ | refine upd_le hA ?_ | (try cbv)))) <;> (try (subst hA; (try simp only [natCast_eq] at *); (try (simp only [Ar.real, NV.val, Int.ofNat_eq_natCast, Int.toNat_natCast])); first | done | omega | decide | exact inR64 (by omega) (by omega) | (refine ⟨?_, ?_⟩ <;> first | omega | decide | exact inR64 (by omega) (by omega))))
  · (try cbv) <;> (repeat' (first | exact trivial | exact rfl | apply And.intro | exact fun _ => rfl | (intro _ hle; first | refine chunk_le hA rfl hle rfl ?_ | refine cat_le hA ?_ | refine upd_le hA ?_ | (try cbv))))
  cbv
  refine Fin.le hA 0 [] (.bl true) ([]) 40000 rfl rfl rfl ?_ ?_ (by rw [← hK]; exact ⟨rfl, rfl, rfl⟩)
  · (try cbv) <;> (repeat' (first | exact trivial | exact rfl | apply And.intro | exact fun _ => rfl | (intro _ hle; first | refine chunk_le hA rfl hle rfl ?_ | refine cat_le hA ?_ | refine upd_le hA ?_ | (try cbv))))
  · (try cbv) <;> (repeat' (first | exact trivial | exact rfl | apply And.intro | exact fun _ => rfl | (intro _ hle; first | refine chunk_le hA rfl hle rfl ?_ | refine cat_le hA ?_ | refine upd_le hA ?_ | (try cbv))))
end Go.Proofs.YtnjjgipblimbfaaDoor.Dsk
namespace Go.Proofs.YtnjjgipblimbfaaDoor.Dsk
open Go.Eng
open Go.DskLaw (q64 secV isB needN pcs getP)
open Go.WalLaw
open Go.CrcLaw (four)
set_option maxRecDepth 100000
set_option maxHeartbeats 4000000
/-- An act. -/
structure OpW where
  d : Int
  a : Int
  bn : Nat
  b : Nat → Int
  kn : Nat
  ks : Nat → Int
  kb : Nat → Int
abbrev opW (o : OpW) : List SV := [.int .i64 o.d, .int .i64 o.a, .ro 1 (.s o.bn) (fun x => [.int .u8 (o.b x.val)]), .ro 2 (.s o.kn) (fun x => [.int .i64 (o.ks x.val), .int .i64 (o.kb x.val)])]
abbrev OpsW (n : Nat) (l : Nat → OpW) : SV := .ro 4 (.s n) (fun e => opW (l e.val))
def LightW (n : Nat) (l : Nat → OpW) : Prop := n ≤ 40 ∧ ∀ i, i < n → (l i).bn ≤ 400 ∧ (l i).kn ≤ 60
theorem lightW_ex (n : Nat) (l : Nat → OpW) : ∃ r : Bool, r = true ↔ LightW n l := by
  by_cases h : LightW n l
  · exact ⟨true, fun _ => h, fun _ => rfl⟩
  · exact ⟨false, fun e => (by cases e), fun e => absurd e h⟩
theorem light27_fn {P : Program} {G : Gl} (hP : P = Tryd.prog) {n : Nat} {l : Nat → OpW} {r : Bool} (hn : n ≤ 9223372036854775807) (hl : ∀ i, i < n → (l i).bn ≤ 9223372036854775807 ∧ (l i).kn ≤ 9223372036854775807) (hr : r = true ↔ LightW n l) :
    FnTr P G 36 [OpsW n l] [] 0 (Gives (.bs r) [] 0) := by
  obtain ⟨bn, hbn⟩ : ∃ bn : Nat → Nat, ∀ i, bn i = (l i).bn := ⟨_, fun _ => rfl⟩
  obtain ⟨kn, hkn⟩ : ∃ kn : Nat → Nat, ∀ i, kn i = (l i).kn := ⟨_, fun _ => rfl⟩
  have hr1 : (¬ ∃ i, i < n ∧ (400 < bn i ∨ 60 < kn i)) → n ≤ 40 → r = true := fun h1 h2 => hr.2 ⟨h2, fun i hi => by
    rw [← hbn, ← hkn]
    refine ⟨?_, ?_⟩
    · exact Decidable.byContradiction fun h => h1 ⟨i, hi, .inl (by omega)⟩
    · exact Decidable.byContradiction fun h => h1 ⟨i, hi, .inr (by omega)⟩⟩
  have hr2 : ∀ i, i < n → (400 < bn i ∨ 60 < kn i) → r = false := fun i hi h => by
    cases r with
    | false => rfl
    | true =>
      have := (hr.1 rfl).2 i hi
      rw [← hbn, ← hkn] at this; omega
  have hr3 : 40 < n → r = false := fun h => by
    cases r with
    | false => rfl
    | true => have := (hr.1 rfl).1; omega
  clear hr
  have hT : T.Ok P := hP ▸ T_ok
  refine FnTr.intro (fn := Tryd.f36) (c := bodyOf Tryd.f36) (by rw [hP]; rfl) rfl rfl hT ?_
  generalize hA : Ar.real = A
  generalize hK : Gives _ _ _ = K
  cbv
  refine LS.le hT hA 0 (fun (i : Nat) => [(3, .int .i64 (i : Int))]) (fun _ => []) (fun i => i ≤ n ∧ ∀ j, j < i → bn j ≤ 400 ∧ kn j ≤ 60) (fun i => n - i) 0 [] rfl rfl ?_ ?_ ?_
  · (try cbv) <;> (repeat' (first | exact trivial | exact rfl | apply And.intro | exact fun _ => rfl | (intro _ hle; first | refine chunk_le hA rfl hle rfl ?_ | refine cat_le hA ?_ | refine upd_le hA ?_ | (try cbv))))
  · exact ⟨Nat.zero_le _, fun j hj => by omega⟩
  · intro R hR i hp
    cbv
    obtain ⟨h1, h2⟩ := hp
    refine ⟨fun h3 => ?_, fun h3 => ?_⟩
    · have hi : i < n := by clear hR hr1 hr2 hr3; subst hA; simp [Ar.real] at h3; omega
      have kn1 : A.nat (Int.ofNat i) = i := by clear hR; subst hA; rfl
      cbv
      refine ⟨(by (subst hA; (try simp only [natCast_eq] at *); (try (simp only [Ar.real, NV.val, Int.ofNat_eq_natCast, Int.toNat_natCast])); first | done | omega | decide | exact inR64 (by omega) (by omega) | (refine ⟨?_, ?_⟩ <;> first | omega | decide | exact inR64 (by omega) (by omega)))), ?_⟩
      by_cases q1 : 400 < bn i
      · have k1 : A.gt (A.i2 ((l (A.nat (Int.ofNat i))).bn)) 400 = true := by rw [kn1, ← hbn]; clear hR; subst hA; simp [Ar.real]; omega
        have hrf := hr2 i hi (.inl q1)
        clear hR hr1 hr2 hr3
        first | refine testR k1 rfl ?_ | refine testL k1 rfl ?_
        cbv
        refine Fin.le hA 0 [] (.bs r) ([]) 0 rfl rfl rfl ?_ ?_ (by rw [← hK]; exact ⟨rfl, rfl, rfl⟩)
        · (try cbv) <;> (repeat' (first | exact trivial | exact rfl | apply And.intro | exact fun _ => rfl | (intro _ hle; first | refine chunk_le hA rfl hle rfl ?_ | refine cat_le hA ?_ | refine upd_le hA ?_ | (try cbv))))
          exact hrf.symm
        · (try cbv) <;> (repeat' (first | exact trivial | exact rfl | apply And.intro | exact fun _ => rfl | (intro _ hle; first | refine chunk_le hA rfl hle rfl ?_ | refine cat_le hA ?_ | refine upd_le hA ?_ | (try cbv))))
      · have k1 : A.gt (A.i2 ((l (A.nat (Int.ofNat i))).bn)) 400 = false := by rw [kn1, ← hbn]; clear hR; subst hA; simp [Ar.real]; omega
        by_cases q2 : 60 < kn i
        · have k2 : A.gt (A.i2 ((l (A.nat (Int.ofNat i))).kn)) 60 = true := by rw [kn1, ← hkn]; clear hR; subst hA; simp [Ar.real]; omega
          have hrf := hr2 i hi (.inr q2)
          clear hR hr1 hr2 hr3
          first | refine testR k1 rfl ?_ | refine testL k1 rfl ?_
          cbv
          refine ⟨(by (subst hA; (try simp only [natCast_eq] at *); (try (simp only [Ar.real, NV.val, Int.ofNat_eq_natCast, Int.toNat_natCast])); first | done | omega | decide | exact inR64 (by omega) (by omega) | (refine ⟨?_, ?_⟩ <;> first | omega | decide | exact inR64 (by omega) (by omega)))), ?_⟩
          first | refine testR k2 rfl ?_ | refine testL k2 rfl ?_
          cbv
          refine Fin.le hA 0 [] (.bs r) ([]) 0 rfl rfl rfl ?_ ?_ (by rw [← hK]; exact ⟨rfl, rfl, rfl⟩)
          · (try cbv) <;> (repeat' (first | exact trivial | exact rfl | apply And.intro | exact fun _ => rfl | (intro _ hle; first | refine chunk_le hA rfl hle rfl ?_ | refine cat_le hA ?_ | refine upd_le hA ?_ | (try cbv))))
            exact hrf.symm
          · (try cbv) <;> (repeat' (first | exact trivial | exact rfl | apply And.intro | exact fun _ => rfl | (intro _ hle; first | refine chunk_le hA rfl hle rfl ?_ | refine cat_le hA ?_ | refine upd_le hA ?_ | (try cbv))))
        · have k2 : A.gt (A.i2 ((l (A.nat (Int.ofNat i))).kn)) 60 = false := by rw [kn1, ← hkn]; clear hR; subst hA; simp [Ar.real]; omega
          first | refine testR k1 rfl ?_ | refine testL k1 rfl ?_
          cbv
          refine ⟨(by (subst hA; (try simp only [natCast_eq] at *); (try (simp only [Ar.real, NV.val, Int.ofNat_eq_natCast, Int.toNat_natCast])); first | done | omega | decide | exact inR64 (by omega) (by omega) | (refine ⟨?_, ?_⟩ <;> first | omega | decide | exact inR64 (by omega) (by omega)))), ?_⟩
          first | refine testR k2 rfl ?_ | refine testL k2 rfl ?_
          cbv
          refine ⟨(by (subst hA; (try simp only [natCast_eq] at *); (try (simp only [Ar.real, NV.val, Int.ofNat_eq_natCast, Int.toNat_natCast])); first | done | omega | decide | exact inR64 (by omega) (by omega) | (refine ⟨?_, ?_⟩ <;> first | omega | decide | exact inR64 (by omega) (by omega)))), hR _ _ ⟨i + 1, 0, [], rfl, rfl, ?_, ⟨hi, fun j hj => ?_⟩, (by show n - (i + 1) < n - i; omega)⟩⟩
          · clear hR
            (try cbv) <;> (repeat' (first | exact trivial | exact rfl | apply And.intro | exact fun _ => rfl | (intro _ hle; first | refine chunk_le hA rfl hle rfl ?_ | refine cat_le hA ?_ | refine upd_le hA ?_ | (try cbv))))
            (subst hA; (try simp only [natCast_eq] at *); (try (simp only [Ar.real, NV.val, Int.ofNat_eq_natCast, Int.toNat_natCast])); first | done | omega | decide | exact inR64 (by omega) (by omega) | (refine ⟨?_, ?_⟩ <;> first | omega | decide | exact inR64 (by omega) (by omega)))
          · rcases Nat.lt_or_ge j i with e | e
            · exact h2 j e
            · rw [show j = i by omega]; omega
    · have hi : i = n := by clear hR hr1 hr2 hr3; subst hA; simp [Ar.real] at h3; omega
      subst hi
      clear hR
      have hno : ¬ ∃ j, j < i ∧ (400 < bn j ∨ 60 < kn j) := fun ⟨j, a, b⟩ => by have := h2 j a; omega
      by_cases q : i ≤ 40
      · have hrt := hr1 hno q
        clear hr1 hr2 hr3
        cbv
        refine Fin.le hA 0 [] (.bs r) ([]) 0 rfl rfl rfl ?_ ?_ (by rw [← hK]; exact ⟨rfl, rfl, rfl⟩)
        · (try cbv) <;> (repeat' (first | exact trivial | exact rfl | apply And.intro | exact fun _ => rfl | (intro _ hle; first | refine chunk_le hA rfl hle rfl ?_ | refine cat_le hA ?_ | refine upd_le hA ?_ | (try cbv))))
          subst hA; rw [hrt]; simp [Ar.real]; omega
        · (try cbv) <;> (repeat' (first | exact trivial | exact rfl | apply And.intro | exact fun _ => rfl | (intro _ hle; first | refine chunk_le hA rfl hle rfl ?_ | refine cat_le hA ?_ | refine upd_le hA ?_ | (try cbv))))
      · have hrf := hr3 (by omega)
        clear hr1 hr2 hr3
        cbv
        refine Fin.le hA 0 [] (.bs r) ([]) 0 rfl rfl rfl ?_ ?_ (by rw [← hK]; exact ⟨rfl, rfl, rfl⟩)
        · (try cbv) <;> (repeat' (first | exact trivial | exact rfl | apply And.intro | exact fun _ => rfl | (intro _ hle; first | refine chunk_le hA rfl hle rfl ?_ | refine cat_le hA ?_ | refine upd_le hA ?_ | (try cbv))))
          subst hA; rw [hrf]; simp [Ar.real]; omega
        · (try cbv) <;> (repeat' (first | exact trivial | exact rfl | apply And.intro | exact fun _ => rfl | (intro _ hle; first | refine chunk_le hA rfl hle rfl ?_ | refine cat_le hA ?_ | refine upd_le hA ?_ | (try cbv))))
theorem heads_fn {P : Program} {G : Gl} (hP : P = Tryd.prog) {k c su : Nat} {gl ml : Nat → Nat} {gf mf : Nat → Nat → Int} (h1 : su ≤ k ∧ k ≤ c) (hc : c ≤ 1000000) (h : ∀ i, i < k → gl i = ml i ∧ ∀ j, j < gl i → gf i j = mf i j ∧ 0 ≤ gf i j ∧ gf i j < 256) :
    FnTr P G 41 [NtS k gl gf, NtS c ml mf, .int .i64 (su : Int)] [] 0 (Gives (.bl true) [] 0) := by
  have a1 := sameall_fn (P := P) (G := G) (n := k) (m := k) (lf := gl) (lg := ml) (f := gf) (g := mf) hP rfl (by omega) h
  clear h
  have hT : T.Ok P := hP ▸ T_ok
  refine FnTr.intro (fn := Tryd.f41) (c := bodyOf Tryd.f41) (by rw [hP]; rfl) rfl rfl hT ?_
  generalize hA : Ar.real = A
  generalize hK : Gives _ _ _ = K
  cbv
  have k1 : A.ge (A.i2 k) (Int.ofNat su) = true := by clear a1; subst hA; simp [Ar.real]; omega
  have k2 : A.le (A.i2 k) (A.i2 c) = true := by clear a1; subst hA; simp [Ar.real]; omega
  first | refine testR k1 rfl ?_ | refine testL k1 rfl ?_
  cbv
  first | refine testR k2 rfl ?_ | refine testL k2 rfl ?_
  cbv
  refine ⟨⟨(by (subst hA; (try simp only [natCast_eq] at *); (try (simp only [Ar.real, NV.val, Int.ofNat_eq_natCast, Int.toNat_natCast])); first | done | omega | decide | exact inR64 (by omega) (by omega) | (refine ⟨?_, ?_⟩ <;> first | omega | decide | exact inR64 (by omega) (by omega)))), (by (subst hA; (try simp only [natCast_eq] at *); (try (simp only [Ar.real, NV.val, Int.ofNat_eq_natCast, Int.toNat_natCast])); first | done | omega | decide | exact inR64 (by omega) (by omega) | (refine ⟨?_, ?_⟩ <;> first | omega | decide | exact inR64 (by omega) (by omega))))⟩, ?_⟩
  refine CS.le hA a1 [] rfl rfl rfl ?_ ?_ ?_
  · (try cbv) <;> (repeat' (first | exact trivial | exact rfl | apply And.intro | exact fun _ => rfl | (intro _ hle; first | refine chunk_le hA rfl hle rfl ?_ | refine cat_le hA ?_ | refine upd_le hA ?_ | refine int_le ?_ | skip)))
    all_goals (subst hA; rfl)
  · (try cbv) <;> (repeat' (first | exact trivial | exact rfl | apply And.intro | exact fun _ => rfl | (intro _ hle; first | refine chunk_le hA rfl hle rfl ?_ | refine cat_le hA ?_ | refine upd_le hA ?_ | (try cbv))))
  cbv
  refine Fin.le hA 0 [] (.bl true) ([]) 0 rfl rfl rfl ?_ ?_ (by rw [← hK]; exact ⟨rfl, rfl, rfl⟩)
  · (try cbv) <;> (repeat' (first | exact trivial | exact rfl | apply And.intro | exact fun _ => rfl | (intro _ hle; first | refine chunk_le hA rfl hle rfl ?_ | refine cat_le hA ?_ | refine upd_le hA ?_ | (try cbv))))
  · (try cbv) <;> (repeat' (first | exact trivial | exact rfl | apply And.intro | exact fun _ => rfl | (intro _ hle; first | refine chunk_le hA rfl hle rfl ?_ | refine cat_le hA ?_ | refine upd_le hA ?_ | (try cbv))))
end Go.Proofs.YtnjjgipblimbfaaDoor.Dsk
namespace Go.Proofs.YtnjjgipblimbfaaDoor.Dsk
open Go.Eng
open Go.DskLaw (q64 secV isB needN pcs getP)
open Go.WalLaw
open Go.CrcLaw (four)
set_option maxRecDepth 100000
set_option maxHeartbeats 1000000
/-- What may be left: so many notes for sure; within a switch, or the new base. -/
def Post (s h : Nat) (d : Dk) (wi : Bool) (su c bn : Nat) (b : Nat → Int) (ml : Nat → Nat) (mf : Nat → Nat → Int) (on : Nat) (of : Nat → Int) : Prop :=
  DkOk s d ∧ ∀ (ks kb : Nat → Int) (n : Nat), (∃ g fi en K, Reg s h g fi en ∧ 0 < g ∧ su + 1 ≤ K ∧ K ≤ c + 1 ∧ ImgD (crashD d ks kb n) g fi en K (cons0 bn ml) (cons0 b mf)) ∨
    (wi = true ∧ ∃ g fi en, Reg s h g fi en ∧ 0 < g ∧ ImgD (crashD d ks kb n) g fi en 1 (fun _ => on) (fun _ => of))
section
variable {P : Program} {fr : Nat → Int} {N s h g fi en K su c n bn on : Nat} {d d1 : Dk} {ml ml' : Nat → Nat} {mf mf' : Nat → Nat → Int} {f b of : Nat → Int} {wi : Bool}
theorem post_log {su' w : Nat} (hl : LogI d fi en su' w (c + 1) (cons0 bn ml) (cons0 b mf)) (hd : HdI d g) (hr : Reg s h g fi en) (hg : 1 ≤ g ∧ g ≤ 1099511627776) (ok : DkOk s d) (hs : su + 1 ≤ su') : Post s h d wi su c bn b ml mf on of := by
  refine ⟨ok, fun ks kb n => .inl ?_⟩
  obtain ⟨K, h1, h2, h3⟩ := hl.crash (ks := ks) (kb := kb) (n := n) hd hg.2 ok ⟨hr.le.1, hr.le.2.2⟩
  exact ⟨g, fi, en, K, hr, hg.1, by omega, h2, h3⟩
theorem LgSt.post (st : LgSt s h d g fi en su c bn b ml mf) : Post s h d wi su c bn b ml mf on of := post_log st.log st.hd st.reg st.gle st.ok (Nat.le_refl _)
theorem reg_ex (s h g : Nat) (hs : 4 ≤ s ∧ s ≤ 4096) (hh : h = (s - 2) / 2) (hg : g ≤ 1099511627777) : ∃ fi en, Reg s h g fi en := ⟨_, _, hs, hh, hg, rfl, rfl⟩
/-- A new base. -/
theorem switch_st (hP : P = Tryd.prog) (hfr : ∀ i, fr i = ((four i).toNat : Int)) (hN : N = 64 * s) (st : LgSt s h d g fi en su c bn b ml mf) (hb : ∀ i, i < n → 0 ≤ f i ∧ f i ≤ 255) (hn : n ≤ 65532) (hg : g < 1099511627776) (ml' : Nat → Nat) (mf' : Nat → Nat → Int) :
    ((65536 < n + 4 ∨ h < needN (n + 4)) ∧ FnTr P (Gf fr) 38 [.ptr 3 0, By n f] (LgH N d g (atL fi bn ml c) bn b (.l 0) c su false c ml mf) 5 (Gives (.lit .i64 2) (LgH N d g (atL fi bn ml c) bn b (.l 0) c su false c ml mf) 3000)) ∨
    (∃ d1, offD d1 ∧ Post s h d1 true su c bn b ml mf n f ∧ FnTr P (Gf fr) 38 [.ptr 3 0, By n f] (LgH N d g (atL fi bn ml c) bn b (.l 0) c su false c ml mf) 5 (Gives (.lit .i64 6) (LgH N d1 g (atL fi bn ml c) bn b (.l 0) c su true c ml mf) 5000)) ∨
    (∃ d1 fi' en', d1.ar = d.ar ∧ LgSt s h d1 (g + 1) fi' en' 0 0 n f ml' mf' ∧ FnTr P (Gf fr) 38 [.ptr 3 0, By n f] (LgH N d g (atL fi bn ml c) bn b (.l 0) c su false c ml mf) 5 (Gives (.lit .i64 0) (LgQ 5 N d1 (g + 1) (atL fi' n ml' 0) n f (.l 0) 0 0 false 0 ml' mf') 5000)) := by
  have hs := st.reg.hs
  have hh := st.reg.hh
  by_cases hfull : 65536 < n + 4 ∨ h < needN (n + 4)
  · exact .inl ⟨hfull, switch_full hP rfl hN hs hh (by omega) hfull⟩
  obtain ⟨fi', en', hr'⟩ := reg_ex s h (g + 1) hs hh (by omega)
  have hle := hr'.le
  have hen := hr'.hen
  have ok := st.ok
  obtain ⟨d1, at', e, hl⟩ := layIs_ex d (g + 1) fi' en' (n + 4) (sealF n f)
  have okd := hl.okd ok ⟨by omega, hle.2.2⟩ (fun i _ => sealF_range hb i) (by omega)
  have laid := hl.laid (by omega) (by omega)
  have hdj : en ≤ fi' ∨ en' ≤ fi := Reg.disj st.reg hr'
  rcases lay_fn hP hfr hN hr' hb rfl (by omega) (by omega) ok hl with ⟨e6, hat, cL⟩ | ⟨e0, hat, cL⟩
  · have hoff := hl.off e6 ok.hca.1
    refine .inr (.inl ⟨d1, hoff, ?_, switch_err hP rfl hN hs hh (by omega) hfull hg rfl cL⟩)
    rcases laid.cut e6 with hF | ⟨d2, hF, e2⟩ | ⟨d2, d3, hF, e3, hlog, e1⟩
    · exact post_log (hF.log st.log hdj) (hF.head st.hd hle.1) st.reg st.gle okd (Nat.le_refl _)
    · have l2 := (hF.log st.log hdj).flush
      have h2 := (hF.head st.hd hle.1).flush
      rw [← e2] at l2 h2
      have hsu := st.log.hsu
      exact post_log l2 h2 st.reg st.gle okd (by omega)
    · refine ⟨okd, fun ks kb m => ?_⟩
      have l3 : LogI d3 fi en (c + 1) (atL fi bn ml c) (c + 1) (cons0 bn ml) (cons0 b mf) := by rw [e3]; exact (hF.log st.log hdj).flush
      have h3 : HdI d3 g := by rw [e3]; exact (hF.head st.hd hle.1).flush
      have b3 := hlog (fun _ => n) (fun _ => f) rfl rfl
      have hsu := st.log.hsu
      rw [e1] at okd
      obtain ⟨g0, g1, q0, q1, qm⟩ := torn_head (ks := ks) (kb := kb) (n := m) h3 (by omega) okd
      rw [← e1] at q0 q1 okd
      have la : LogI d1 fi en (c + 1) (atL fi bn ml c) (c + 1) (cons0 bn ml) (cons0 b mf) := by rw [e1]; exact l3.headed st.reg.le.1 (by omega)
      have lb : LogI d1 fi' en' 1 (stN fi' (fun _ => n) 1) 1 (fun _ => n) (fun _ => f) := by rw [e1]; exact b3.headed hle.1 (by omega)
      rcases qm with qm | qm
      · obtain ⟨K, k1, k2, k3, k4⟩ := la.left (ks := ks) (kb := kb) (n := m) okd st.reg.le.2.2
        exact .inl ⟨g, fi, en, K, st.reg, st.gle.1, by omega, k2, ⟨g0, g1, q0, q1, qm.symm⟩, ⟨by omega, Nat.le_trans (stN_mono k2) la.hen⟩, fun i hi => la.hlen i (by omega), k3, k4, fun k g e => by cases e⟩
      · obtain ⟨K, k1, k2, k3, k4⟩ := lb.left (ks := ks) (kb := kb) (n := m) okd hle.2.2
        obtain rfl : K = 1 := by omega
        exact .inr ⟨rfl, g + 1, fi', en', hr', by omega, ⟨g0, g1, q0, q1, qm.symm⟩, ⟨by omega, lb.hen⟩, lb.hlen, k3, k4, fun k g e => by cases e⟩
  · obtain ⟨_, d2, d3, hF, e3, hlog, e1⟩ := laid.fin e0
    have h3 : HdI d3 g := by rw [e3]; exact (hF.head st.hd hle.1).flush
    have b3 := hlog (cons0 n ml') (cons0 f mf') rfl rfl
    refine .inr (.inr ⟨d1, fi', en', hl.ard, ⟨hr', by omega, okd, ?_, ?_⟩, switch_ok hP rfl hN hs hh (by omega) hfull hg rfl cL⟩)
    · rw [e1]; exact (b3.headed hle.1 (by omega)).flush
    · rw [e1]; exact head_new h3
theorem sync_cut {G : Gl} (hP : P = Tryd.prog) (ho : offD d) :
    FnTr P G 28 [.ptr 3 0] (LgH N d g (atL fi bn ml c) bn b (.l 0) c su false c ml mf) 5 (Gives (.lit .i64 6) (LgH N d g (atL fi bn ml c) bn b (.l 0) c su true c ml mf) 100) := sync_off hP rfl ho
end
end Go.Proofs.YtnjjgipblimbfaaDoor.Dsk
namespace Go.Proofs.YtnjjgipblimbfaaDoor.Dsk
open Go.Eng
open Go.DskLaw (q64 secV isB needN pcs getP)
open Go.WalLaw
open Go.CrcLaw (four)
set_option maxRecDepth 100000
set_option maxHeartbeats 1000000
section
variable {P : Program} {fr : Nat → Int} {d : Dk} {wi : Bool} {su c bn on nk nm g fi en K : Nat} {b of ks kb ks2 kb2 : Nat → Int} {ml nl : Nat → Nat} {mf nf : Nat → Nat → Int} {ag : Int}
theorem stop_img {ca : Int} (h : ImgD d g fi en K nl nf) : ImgD ⟨d.S, d.L, true, ca⟩ g fi en K nl nf := ⟨h.heads, h.hK, h.hlen, h.recs, h.stop, h.lz⟩
theorem tail_img (hP : P = Tryd.prog) (hfr : ∀ i, fr i = ((four i).toNat : Int)) (hag : 0 ≤ ag ∧ ag ≤ 9223372036854775807) (ok : DkOk 22 d) (hr : Reg 22 10 g fi en) (hg : 0 < g) (hi : ImgD (crashD d ks kb nk) g fi en K nl nf) (hnk : nk ≤ 1000000) (hnm : nm ≤ 1000000) :
    ∃ (d1 d2 d3 d4 d5 : Dk) (last : Nat) (gs : Nat → Nat × (Nat → Int)),
      FnTr P (Gf fr) 40 [.ptr 0 0, .ro 2 (.s nk) (fun e => [.int .i64 (ks e.val), .int .i64 (kb e.val)])] (DHd 1408 d) 3 (Gives (.tup []) (DHd 1408 d1) 3) ∧
      FnTr P (Gf fr) 37 [.ptr 0 0, .int .i64 ag] (DHd 1408 d1) 3 (Gives (.tup []) (DHd 1408 d2) 3) ∧
      (FnTr P (Gf fr) 32 [.ptr 0 0] (DHd 1408 d2) 3 (Gives (.tup [.nilp, .lit .i64 6]) (DHd 1408 d3) 3) ∨ ∃ g' last' K' gs', FnTr P (Gf fr) 32 [.ptr 0 0] (DHd 1408 d2) 3 (Gives (.tup [.ptr 3 0, .lit .i64 0]) (OpH 1408 d3 g' last' K' gs') 100)) ∧
      FnTr P (Gf fr) 40 [.ptr 0 0, .ro 2 (.s nm) (fun e => [.int .i64 (ks2 e.val), .int .i64 (kb2 e.val)])] (DHd 1408 d3) 3 (Gives (.tup []) (DHd 1408 d4) 3) ∧
      FnTr P (Gf fr) 32 [.ptr 0 0] (DHd 1408 d4) 3 (Gives (.tup [.ptr 3 0, .lit .i64 0]) (OpH 1408 d5 g last K gs) 100) ∧ 1 ≤ K ∧ K ≤ 4096 ∧ (∀ i, i < K → nl i ≤ 65532) ∧ Same K gs nl nf := by
  obtain ⟨d1, hd1⟩ : ∃ d1, d1 = crashD d ks kb nk := ⟨_, rfl⟩
  have c1 := crash_fn (P := P) (G := Gf fr) (N := 1408) (s := 22) (n := nk) (S := d.S) (L := d.L) (S' := d1.S) (L' := d1.L) (ar := d.ar) (ca := d.ca) (ks := ks) (kb := kb) hP rfl (by omega) hnk ok.key (fun x _ => by rw [hd1]; rfl) (fun _ => by rw [hd1]; rfl)
  have ok1 : DkOk 22 d1 := by rw [hd1]; exact ok.crash
  rw [← hd1] at hi
  have e1 : d1.ar = false := by rw [hd1]; rfl
  have e2 : d1.ca = 0 := by rw [hd1]; rfl
  have e3 : ∀ k, d1.L k = none := fun k => by rw [hd1]; rfl
  obtain ⟨d2, hd2⟩ : ∃ d2 : Dk, d2 = ⟨d1.S, d1.L, true, ag⟩ := ⟨_, rfl⟩
  have c2 := stop_fn (P := P) (G := Gf fr) (N := 1408) (S := d1.S) (L := d1.L) (ar := d1.ar) (ar' := d2.ar) (ca := d1.ca) (ca' := d2.ca) (n := ag) hP (.inr ⟨fun q => (by rw [e1] at q; cases q.1), (by rw [hd2]; exact ⟨fun _ => hag.1, fun _ => rfl⟩), (by rw [hd2, if_neg (by omega)])⟩)
  have ok2 : DkOk 22 d2 := by rw [hd2]; exact ⟨hag, ok1.key, ok1.sb, ok1.lb⟩
  have i2 : ImgD d2 g fi en K nl nf := by rw [hd2]; exact stop_img hi
  obtain ⟨d3, ok3, i3, ho⟩ := open_img hP hfr (N := 1408) rfl hr hg ok2 (by rw [hd2]; exact e3) i2
  obtain ⟨d4, hd4⟩ : ∃ d4, d4 = crashD d3 ks2 kb2 nm := ⟨_, rfl⟩
  have c4 := crash_fn (P := P) (G := Gf fr) (N := 1408) (s := 22) (n := nm) (S := d3.S) (L := d3.L) (S' := d4.S) (L' := d4.L) (ar := d3.ar) (ca := d3.ca) (ks := ks2) (kb := kb2) hP rfl (by omega) hnm ok3.key (fun x _ => by rw [hd4]; rfl) (fun _ => by rw [hd4]; rfl)
  have i4 : ImgD d4 g fi en K nl nf := by rw [hd4]; exact i3.crash ok3 hr.le.1
  have ok4 : DkOk 22 d4 := by rw [hd4]; exact ok3.crash
  obtain ⟨d5, gs, last, _, i5, hs, _, _, c5⟩ := open_run hP hfr (N := 1408) rfl hr hg ok4 (fun k => by rw [hd4]; rfl) i4 (by rw [hd4]; rfl)
  refine ⟨d1, d2, d3, d4, d5, last, gs, ?_, ?_, ?_, ?_, c5, hi.hK.1, img_small hr hi, fun i q => by have := hi.hlen i q; omega, hs⟩
  · have q : DHd 1408 d1 = DH 1408 d1.S d1.L false 0 := by show DH _ _ _ _ _ = _; rw [e1, e2]
    rw [q]; exact c1
  · have q : DHd 1408 d2 = DH 1408 d1.S d1.L d2.ar d2.ca := by show DH _ _ _ _ _ = _; rw [hd2]
    rw [q]; exact c2
  · rcases ho with ⟨_, ho⟩ | ⟨gs', last', _, _, _, ho⟩
    · exact .inl ho
    · exact .inr ⟨_, _, _, _, ho⟩
  · have q : DHd 1408 d4 = DH 1408 d4.S d4.L false 0 := by show DH _ _ _ _ _ = _; rw [hd4]; rfl
    rw [q]; exact c4
theorem tail_facts (hP : P = Tryd.prog) (hfr : ∀ i, fr i = ((four i).toNat : Int)) (hag : 0 ≤ ag ∧ ag ≤ 9223372036854775807) (hp : Post 22 10 d wi su c bn b ml mf on of) (hnk : nk ≤ 1000000) (hnm : nm ≤ 1000000) :
    ∃ (d1 d2 d3 d4 d5 : Dk) (g last K : Nat) (gs : Nat → Nat × (Nat → Int)),
      FnTr P (Gf fr) 40 [.ptr 0 0, .ro 2 (.s nk) (fun e => [.int .i64 (ks e.val), .int .i64 (kb e.val)])] (DHd 1408 d) 3 (Gives (.tup []) (DHd 1408 d1) 3) ∧
      FnTr P (Gf fr) 37 [.ptr 0 0, .int .i64 ag] (DHd 1408 d1) 3 (Gives (.tup []) (DHd 1408 d2) 3) ∧
      (FnTr P (Gf fr) 32 [.ptr 0 0] (DHd 1408 d2) 3 (Gives (.tup [.nilp, .lit .i64 6]) (DHd 1408 d3) 3) ∨ ∃ g' last' K' gs', FnTr P (Gf fr) 32 [.ptr 0 0] (DHd 1408 d2) 3 (Gives (.tup [.ptr 3 0, .lit .i64 0]) (OpH 1408 d3 g' last' K' gs') 100)) ∧
      FnTr P (Gf fr) 40 [.ptr 0 0, .ro 2 (.s nm) (fun e => [.int .i64 (ks2 e.val), .int .i64 (kb2 e.val)])] (DHd 1408 d3) 3 (Gives (.tup []) (DHd 1408 d4) 3) ∧
      FnTr P (Gf fr) 32 [.ptr 0 0] (DHd 1408 d4) 3 (Gives (.tup [.ptr 3 0, .lit .i64 0]) (OpH 1408 d5 g last K gs) 100) ∧ 1 ≤ K ∧ K ≤ 4096 ∧ (∀ i, i < K → (gs i).1 ≤ 65532) ∧
      ((su + 1 ≤ K ∧ K ≤ c + 1 ∧ (gs 0).1 = bn ∧ (∀ x, x < bn → (gs 0).2 x = b x) ∧ ∀ i, i < K - 1 → (gs (1 + i)).1 = ml i ∧ ∀ x, x < ml i → (gs (1 + i)).2 x = mf i x) ∨ (wi = true ∧ K = 1 ∧ (gs 0).1 = on ∧ ∀ x, x < on → (gs 0).2 x = of x)) := by
  rcases hp.2 ks kb nk with ⟨g, fi, en, K, hr, hg, h1, h2, hi⟩ | ⟨hw, g, fi, en, hr, hg, hi⟩
  · obtain ⟨d1, d2, d3, d4, d5, last, gs, c1, c2, c3, c4, c5, k1, k2, k3, hs⟩ := tail_img hP hfr hag hp.1 hr hg hi hnk hnm
    refine ⟨d1, d2, d3, d4, d5, g, last, K, gs, c1, c2, c3, c4, c5, k1, k2, fun i q => by rw [(hs i q).1]; exact k3 i q, .inl ⟨h1, h2, (hs 0 (by omega)).1, fun x hx => (hs 0 (by omega)).2 x hx, fun i q => ?_⟩⟩
    have := hs (1 + i) (by omega)
    rw [show 1 + i = i + 1 by omega] at this ⊢
    exact this
  · obtain ⟨d1, d2, d3, d4, d5, last, gs, c1, c2, c3, c4, c5, k1, k2, k3, hs⟩ := tail_img hP hfr hag hp.1 hr hg hi hnk hnm
    exact ⟨d1, d2, d3, d4, d5, g, last, 1, gs, c1, c2, c3, c4, c5, k1, k2, fun i q => by rw [(hs i q).1]; exact k3 i q, .inr ⟨hw, rfl, (hs 0 (by omega)).1, fun x hx => (hs 0 (by omega)).2 x hx⟩⟩
/-- The same, with what the law reads of the log that is opened last. -/
theorem tail_more (hP : P = Tryd.prog) (hfr : ∀ i, fr i = ((four i).toNat : Int)) (hag : 0 ≤ ag ∧ ag ≤ 9223372036854775807) (hp : Post 22 10 d wi su c bn b ml mf on of) (hnk : nk ≤ 1000000) (hnm : nm ≤ 1000000) :
    ∃ (d1 d2 d3 d4 d5 : Dk) (g last kc w0 : Nat) (wf : Nat → Int) (gl nl : Nat → Nat) (gf nf : Nat → Nat → Int),
      FnTr P (Gf fr) 40 [.ptr 0 0, .ro 2 (.s nk) (fun e => [.int .i64 (ks e.val), .int .i64 (kb e.val)])] (DHd 1408 d) 3 (Gives (.tup []) (DHd 1408 d1) 3) ∧
      FnTr P (Gf fr) 37 [.ptr 0 0, .int .i64 ag] (DHd 1408 d1) 3 (Gives (.tup []) (DHd 1408 d2) 3) ∧
      (FnTr P (Gf fr) 32 [.ptr 0 0] (DHd 1408 d2) 3 (Gives (.tup [.nilp, .lit .i64 6]) (DHd 1408 d3) 3) ∨ ∃ (g' last' K' k0 : Nat) (k1 : Nat → Int) (k2 : Nat → Nat) (k3 : Nat → Nat → Int), FnTr P (Gf fr) 32 [.ptr 0 0] (DHd 1408 d2) 3 (Gives (.tup [.ptr 3 0, .lit .i64 0]) (LgH 1408 d3 g' last' k0 k1 (.s 1) (K' - 1) (K' - 1) false K' k2 k3) 100)) ∧
      FnTr P (Gf fr) 40 [.ptr 0 0, .ro 2 (.s nm) (fun e => [.int .i64 (ks2 e.val), .int .i64 (kb2 e.val)])] (DHd 1408 d3) 3 (Gives (.tup []) (DHd 1408 d4) 3) ∧
      FnTr P (Gf fr) 32 [.ptr 0 0] (DHd 1408 d4) 3 (Gives (.tup [.ptr 3 0, .lit .i64 0]) (LgH 1408 d5 g last w0 wf (.s 1) kc kc false (kc + 1) gl gf) 100) ∧
      FnTr P (Gf fr) 33 [.ptr 3 0] (LgH 1408 d5 g last w0 wf (.s 1) kc kc false (kc + 1) gl gf) 5 (Gives (By w0 wf) (LgH 1408 d5 g last w0 wf (.s 1) kc kc false (kc + 1) gl gf) 100) ∧
      FnTr P (Gf fr) 35 [.ptr 3 0] (LgH 1408 d5 g last w0 wf (.s 1) kc kc false (kc + 1) gl gf) 5 (Gives (NtS kc nl nf) (LgH 1408 d5 g last w0 wf (.s 1) kc kc false (kc + 1) gl gf) 6) ∧ kc ≤ 4096 ∧
      ((su ≤ kc ∧ kc ≤ c ∧ w0 = bn ∧ (∀ x, x < bn → wf x = b x) ∧ ∀ i, i < kc → nl i = ml i ∧ ∀ x, x < nl i → nf i x = mf i x) ∨ (wi = true ∧ kc = 0 ∧ w0 = on ∧ ∀ x, x < on → wf x = of x)) := by
  obtain ⟨d1, d2, d3, d4, d5, g, last, K, gs, c1, c2, c3, c4, c5, k1, k2, k3, hs⟩ := tail_facts (nk := nk) (nm := nm) (ks := ks) (kb := kb) (ks2 := ks2) (kb2 := kb2) hP hfr hag hp hnk hnm
  obtain ⟨kc, rfl⟩ : ∃ kc, K = kc + 1 := ⟨K - 1, by omega⟩
  rw [OpH, show kc + 1 - 1 = kc by omega] at c5
  obtain ⟨nl, hnl⟩ : ∃ nl : Nat → Nat, ∀ i, nl i = (gs (1 + i)).1 := ⟨_, fun _ => rfl⟩
  obtain ⟨nf, hnf⟩ : ∃ nf : Nat → Nat → Int, ∀ i x, nf i x = (gs (1 + i)).2 x := ⟨_, fun _ _ => rfl⟩
  have cB := base_fn (P := P) (G := Gf fr) (N := 1408) (gen := g) (at1 := last) (nb := (gs 0).1) (b := (gs 0).2) (o := .s 1) (c := kc) (su := kc) (cn := kc + 1) (d := d5) (dead := false) (nl := fun i => (gs i).1) (nf := fun i => (gs i).2) hP (by have := k3 0 (by omega); omega)
  have cN := notes_fn (P := P) (G := Gf fr) (N := 1408) (gen := g) (at1 := last) (nb := (gs 0).1) (b := (gs 0).2) (o := .s 1) (c := kc) (su := kc) (cn := kc + 1) (d := d5) (dead := false) (nl := fun i => (gs i).1) (nf := fun i => (gs i).2) (ml := nl) (mf := nf) hP (.inr ⟨1, rfl⟩) (by show kc + 1 = 1 + kc; omega) (by omega) (fun i hi => ⟨hnl i, by
    have := k3 (1 + i) (by omega)
    rw [hnl]; omega⟩) (fun i _ x => hnf i x)
  refine ⟨d1, d2, d3, d4, d5, g, last, kc, _, _, _, nl, _, nf, c1, c2, ?_, c4, c5, cB, cN, by omega, ?_⟩
  · rcases c3 with c3 | ⟨g', last', K', gs', c3⟩
    · exact .inl c3
    · exact .inr ⟨g', last', K', _, _, _, _, c3⟩
  · rcases hs with ⟨h1, h2, h3, h4, h5⟩ | ⟨h1, h2, h3, h4⟩
    · refine .inl ⟨by omega, by omega, h3, h4, fun i hi => ?_⟩
      have := h5 i (by omega)
      exact ⟨by rw [hnl]; exact this.1, fun x hx => by rw [hnl, this.1] at hx; rw [hnf]; exact this.2 x hx⟩
    · exact .inr ⟨h1, by omega, h3, h4⟩
end
end Go.Proofs.YtnjjgipblimbfaaDoor.Dsk
