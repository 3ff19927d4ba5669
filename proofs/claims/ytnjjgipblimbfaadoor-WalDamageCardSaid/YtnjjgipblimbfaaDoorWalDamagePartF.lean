/-
  A verified symbolic executor over the code of the model, and what it shows of this program: part 6 of 6 (LawWalDamage).
-/
import Derived.Test.YtnjjgipblimbfaaDoorWalDamagePartE
set_option linter.unusedVariables false
set_option linter.unusedSimpArgs false
namespace Go.WalLaw
open Go.DskLaw
section
variable {d d' : Dk} {s g fi en su w c n : Nat} {nl nl' : Nat → Nat} {nf nf' : Nat → Nat → Int} {ks kb f : Nat → Int}
/-! ### Frames -/
theorem LogI.frame (h : LogI d fi en su w c nl nf) (hS : ∀ t x, fi ≤ t → t < en → x < 64 → d'.S (64 * t + x) = d.S (64 * t + x)) (hL : ∀ t : Nat, fi ≤ t → t < en → d'.L (t : Int) = d.L (t : Int)) : LogI d' fi en su w c nl nf where
  hsu := h.hsu
  hw := h.hw
  hen := h.hen
  hlen := h.hlen
  recs := fun i hi j hj x hx => by
    have h1 := stN_in (fi := fi) (nl := nl) (c := c) (show i < c by have := h.hsu; omega) hj
    have h2 := h.hen
    rw [hS _ x h1.1 (by omega) hx]
    exact h.recs i hi j hj x hx
  blank := fun t h1 h2 x hx => by
    have h3 : fi ≤ stN fi nl su := stN_mono (fi := fi) (nl := nl) (i := 0) (by omega)
    rw [hS _ x (by omega) h2 hx]
    exact h.blank t h1 h2 x hx
  lin := fun i hi j hj h1 h2 => by
    have h3 := stN_in (fi := fi) (nl := nl) hi hj
    have h4 := h.hen
    rw [hL _ h3.1 (by omega)]
    exact h.lin i hi j hj h1 h2
  lout := fun t h1 h2 h3 => by rw [hL t h1 h2]; exact h.lout t h1 h2 h3
theorem HdI.frame (h : HdI d g) (hS : ∀ t x, t < 2 → x < 64 → d'.S (64 * t + x) = d.S (64 * t + x)) (h0 : d'.L 0 = none) (h1 : d'.L 1 = none) : HdI d' g where
  cur := fun x hx => by rw [hS _ x (by omega) hx]; exact h.cur x hx
  old := fun x hx => by rw [hS _ x (by omega) hx]; exact h.old x hx
  l0 := h0
  l1 := h1
theorem HdI.flush (h : HdI d g) : HdI (flushD d) g :=
  h.frame (fun t x ht hx => by
    rw [flushD_S d t x hx]
    rcases (show t = 0 ∨ t = 1 by omega) with rfl | rfl
    · exact secV_none' h.l0 x
    · exact secV_none' h.l1 x) rfl rfl
theorem HdI.gens (h : HdI d g) (hg : g ≤ 1099511627776) : ∃ g0 g1, GenIs (secV d.S d.L 0) 0 g0 ∧ GenIs (secV d.S d.L 1) 1 g1 ∧ g = max g0 g1 := by
  have e0 : ∀ x, secV d.S d.L 0 x = d.S (64 * 0 + x) := fun x => secV_none' h.l0 x
  have e1 : ∀ x, secV d.S d.L 1 x = d.S (64 * 1 + x) := fun x => secV_none' h.l1 x
  rcases Nat.mod_two_eq_zero_or_one g with q | q
  · have hc := h.cur
    have ho := h.old
    rw [q] at hc
    rw [show (g + 1) % 2 = 1 by omega] at ho
    exact ⟨g, g - 1, genIs_headB hg (fun x hx => by rw [e0, hc x hx]) (.inl q), genIs_headB (by omega) (fun x hx => by rw [e1, ho x hx]) (by omega), by omega⟩
  · have hc := h.cur
    have ho := h.old
    rw [q] at hc
    rw [show (g + 1) % 2 = 0 by omega] at ho
    exact ⟨g - 1, g, genIs_headB (by omega) (fun x hx => by rw [e0, ho x hx]) (by omega), genIs_headB hg (fun x hx => by rw [e1, hc x hx]) (.inl q), by omega⟩

/-! ### A sync -/
theorem LogI.flush (h : LogI d fi en su (stN fi nl c) c nl nf) : LogI (flushD d) fi en c (stN fi nl c) c nl nf where
  hsu := by have := h.hsu; omega
  hw := ⟨Nat.le_refl _, Nat.le_refl _⟩
  hen := h.hen
  hlen := h.hlen
  recs := fun i hi j hj x hx => by
    have h1 := stN_in (fi := fi) (nl := nl) hi hj
    have h2 := h.hen
    rw [flushD_S d _ x hx]
    by_cases q : stN fi nl su ≤ stN fi nl i + j
    · obtain ⟨g, e1, e2⟩ := h.lin i hi j hj q h1.2
      rw [secV_some' e1, e2 x hx]
    · rw [secV_none' (h.lout _ h1.1 (by omega) (.inl (by omega)))]
      have h3 : i < su := by
        rcases Nat.lt_or_ge i su with r | r
        · exact r
        · have : stN fi nl su ≤ stN fi nl i := stN_mono r
          omega
      exact h.recs i h3 j hj x hx
  blank := fun t h1 h2 x hx => by
    have h3 : stN fi nl su ≤ stN fi nl c := stN_mono h.hsu.2
    have h4 : fi ≤ stN fi nl su := stN_mono (fi := fi) (nl := nl) (i := 0) (by omega)
    rw [flushD_S d _ x hx, secV_none' (h.lout t (by omega) h2 (.inr h1))]
    exact h.blank t (by omega) h2 x hx
  lin := fun i hi j hj h1 h2 => by omega
  lout := fun t _ _ _ => rfl

/-! ### A note -/
theorem putD_at (d : Dk) (first n : Nat) (f : Nat → Int) (t : Nat) : (putD d first n f).L (t : Int) = if first ≤ t ∧ t < first + putK d n then some (pcs n f (t - first)) else d.L (t : Int) := by
  show (if (first : Int) ≤ (t : Int) ∧ (t : Int) < (first : Int) + putK d n then some (pcs n f ((t : Int) - first).toNat) else d.L (t : Int)) = _
  by_cases q : first ≤ t ∧ t < first + putK d n
  · rw [if_pos (by omega), if_pos q, show ((t : Int) - (first : Int)).toNat = t - first by omega]
  · rw [if_neg (by omega), if_neg q]
theorem LogI.put (h : LogI d fi en su (stN fi nl c) c nl nf) (hn : n + 4 ≤ 65536) (hfit : stN fi nl c + needN (n + 4) ≤ en) (h1 : ∀ i, i < c → nl' i = nl i) (h2 : ∀ i, i < c → nf' i = nf i) (h3 : nl' c = n) (h4 : nf' c = f) :
    LogI (putD d (stN fi nl c) (n + 4) (sealF n f)) fi en su (stN fi nl c + putK d (n + 4)) (c + 1) nl' nf' := by
  have hk := putK_le d (n + 4)
  have es : ∀ i, i ≤ c → stN fi nl' i = stN fi nl i := stN_congr h1
  have ec : stN fi nl' (c + 1) = stN fi nl c + needN (n + 4) := by rw [stN_succ, es c (by omega), h3]
  have hsu := h.hsu
  have esu : stN fi nl' su = stN fi nl su := es su hsu.2
  have eb : ∀ i, i < c → ∀ j x, recB nl' nf' i j x = recB nl nf i j x := fun i hi j x => by unfold recB; rw [h1 i hi, h2 i hi]
  have hsc : stN fi nl su ≤ stN fi nl c := stN_mono hsu.2
  have hfs : fi ≤ stN fi nl su := stN_mono (fi := fi) (nl := nl) (i := 0) (by omega)
  refine ⟨by omega, by rw [esu, ec]; omega, by rw [ec]; exact hfit, fun i hi => ?_, fun i hi j hj x hx => ?_, fun t a b x hx => ?_, fun i hi j hj a b => ?_, fun t a b q => ?_⟩
  · by_cases q : i < c
    · rw [h1 i q]; exact h.hlen i q
    · rw [show i = c by omega, h3]; exact hn
  · rw [es i (by omega), eb i (by omega)]
    rw [h1 i (by omega)] at hj
    exact h.recs i hi j hj x hx
  · rw [esu] at a
    exact h.blank t a b x hx
  · rw [esu] at a
    by_cases q : i < c
    · rw [es i (by omega)] at a b ⊢
      rw [h1 i q] at hj
      have h5 := stN_in (fi := fi) (nl := nl) q hj
      rw [putD_at, if_neg (by omega)]
      obtain ⟨g, e1, e2⟩ := h.lin i q j hj a h5.2
      exact ⟨g, e1, fun x hx => by rw [e2 x hx, eb i q]⟩
    · obtain rfl : i = c := by omega
      rw [es i (by omega)] at a b ⊢
      rw [putD_at, if_pos (by omega)]
      refine ⟨_, rfl, fun x hx => ?_⟩
      unfold recB
      rw [h3, h4, show stN fi nl i + j - stN fi nl i = j by omega]
  · rw [esu] at q
    rw [putD_at, if_neg (by omega)]
    exact h.lout t a b (by omega)

/-! ### A crash -/
/-- Nothing is kept: what was sure. -/
theorem LogI.crash0 (h : LogI d fi en su w c nl nf) (hd : HdI d g) (hg : g ≤ 1099511627776) : ImgD (crashD d ks kb 0) g fi en su nl nf := by
  have e : (crashD d ks kb 0).S = d.S := rfl
  have hsu := h.hsu
  refine ⟨?_, ⟨by omega, Nat.le_trans (stN_mono hsu.2) h.hen⟩, fun i hi => h.hlen i (by omega), by rw [e]; exact h.recs, ⟨0, fun j hj => by omega, fun hq => by rw [e]; exact h.blank _ (Nat.le_refl _) hq 63 (by omega)⟩, fun k g e => by cases e⟩
  rw [e]
  obtain ⟨g0, g1, e0, e1, e⟩ := hd.gens hg
  exact ⟨g0, g1, genIs_congr (fun x hx => secV_none' hd.l0 x) e0, genIs_congr (fun x hx => secV_none' hd.l1 x) e1, e⟩
/-! ### A base is put down -/
/-- Nothing but a region is touched. -/
structure Fr (d d' : Dk) (a b : Nat) : Prop where
  S : d'.S = d.S
  ar : d'.ar = d.ar
  L : ∀ t : Int, t < (a : Int) ∨ (b : Int) ≤ t → d'.L t = d.L t
theorem Fr.put {a b : Nat} (hb : a + needN n ≤ b) : Fr d (putD d a n f) a b where
  S := rfl
  ar := rfl
  L := fun t ht => by
    have := putK_le d n
    show (if (a : Int) ≤ t ∧ t < (a : Int) + putK d n then some (pcs n f (t - a).toNat) else d.L t) = _
    rw [if_neg (by omega)]
theorem Fr.wipe {d2 : Dk} {a b a1 : Nat} {on : Option Nat} (h : Fr d d' a b) (h1 : a ≤ a1) (hw : wipeD d' a1 b = (on, d2)) : Fr d d2 a b where
  S := (wipeD_S hw).1.trans h.S
  ar := (wipeD_S hw).2.trans h.ar
  L := fun t ht => by
    rcases wipeD_fr hw t with e | ⟨e1, e2, _⟩
    · rw [e]; exact h.L t ht
    · omega
theorem Fr.head {a b : Nat} (hF : Fr d d' a b) (h : HdI d g) (ha : 2 ≤ a) : HdI d' g :=
  h.frame (fun t x _ _ => by rw [hF.S]) (by rw [hF.L 0 (by omega)]; exact h.l0) (by rw [hF.L 1 (by omega)]; exact h.l1)

/-- A base that is put down, before the flush. -/
theorem base_put {d1 d2 : Dk} {a b m nb : Nat} (hn : nb + 4 ≤ 65536) (hfit : a + needN (nb + 4) ≤ b) (hk : putK d (nb + 4) = needN (nb + 4)) (hd1 : d1 = putD d a (nb + 4) (sealF nb f)) (hw : wipeD d1 (a + needN (nb + 4)) b = (some m, d2)) (h3 : nl 0 = nb) (h4 : nf 0 = f) :
    LogI (flushD d2) a b 1 (stN a nl 1) 1 nl nf where
  hsu := by omega
  hw := ⟨Nat.le_refl _, Nat.le_refl _⟩
  hen := by rw [stN_succ, h3]; exact hfit
  hlen := fun i hi => by rw [show i = 0 by omega, h3]; exact hn
  recs := fun i hi j hj x hx => by
    obtain rfl : i = 0 := by omega
    rw [h3] at hj
    rw [flushD_S d2 _ x hx]
    have e : d2.L ((stN a nl 0 + j : Nat) : Int) = some (pcs (nb + 4) (sealF nb f) j) := by
      have e0 : stN a nl 0 = a := rfl
      rw [e0]
      rcases wipeD_fr hw ((a + j : Nat) : Int) with q | ⟨q, _, _⟩
      · rw [q, hd1, putD_at, if_pos (by omega), show a + j - a = j by omega]
      · omega
    rw [secV_some' e]
    unfold recB
    rw [h3, h4]
  blank := fun t h1 h2 x hx => by
    rw [flushD_S d2 _ x hx]
    rw [stN_succ, h3] at h1
    exact wipeD_done hw t h1 h2 x hx
  lin := fun i hi j hj h1 h2 => by omega
  lout := fun t _ _ _ => rfl

/-- What becomes of a disk, when a base is put down. -/
inductive LaidAs (d : Dk) (g a b nb : Nat) (f : Nat → Int) : Dk → Int → Int → Prop
  | early {d' : Dk} : Fr d d' a b → LaidAs d g a b nb f d' 0 6
  | flushed {d2 : Dk} : Fr d d2 a b → LaidAs d g a b nb f (flushD d2) 0 6
  | torn {d2 d3 : Dk} : Fr d d2 a b → d3 = flushD d2 → (∀ nl nf, nl 0 = nb → nf 0 = f → LogI d3 a b 1 (stN a nl 1) 1 nl nf) → LaidAs d g a b nb f (writeD d3 (g % 2) (headB g)) 0 6
  | done {d2 d3 : Dk} : Fr d d2 a b → d3 = flushD d2 → (∀ nl nf, nl 0 = nb → nf 0 = f → LogI d3 a b 1 (stN a nl 1) 1 nl nf) → LaidAs d g a b nb f (flushD (writeD d3 (g % 2) (headB g))) ((a + needN (nb + 4) : Nat) : Int) 0
theorem LayIs.laid {at' e : Int} {nb b a : Nat} (h : LayIs d g a b (nb + 4) (sealF nb f) d' at' e) (hn : nb + 4 ≤ 65536) (hfit : a + needN (nb + 4) ≤ b) : LaidAs d g a b nb f d' at' e := by
  have hF : Fr d (putD d a (nb + 4) (sealF nb f)) a b := Fr.put hfit
  cases h with
  | put hk => exact .early hF
  | wipe0 hk o1 => exact .early hF
  | wipe hk o1 hw => exact .early (hF.wipe (by omega) hw)
  | flush hk o1 hw o2 => exact .early (hF.wipe (by omega) hw)
  | write hk o1 hw o2 o3 => exact .flushed (hF.wipe (by omega) hw)
  | again hk o1 hw o2 o3 o4 => exact .torn (hF.wipe (by omega) hw) rfl (fun nl nf h3 h4 => base_put hn hfit hk rfl hw h3 h4)
  | ok hk o1 hw o2 o3 o4 => exact .done (hF.wipe (by omega) hw) rfl (fun nl nf h3 h4 => base_put hn hfit hk rfl hw h3 h4)
/-- A disk whose power does not go: all is done. -/
theorem LayIs.run {at' e : Int} {nb b a : Nat} (h : LayIs d g a b (nb + 4) (sealF nb f) d' at' e) (har : d.ar = false) : e = 0 := by
  have e0 : ∀ x : Dk, x.ar = false → ¬ offD x := fun x hx ho => by have := ho.1; rw [hx] at this; cases this
  cases h with
  | put hk =>
    have : putK d (nb + 4) = needN (nb + 4) := by unfold putK; rw [har]; rfl
    omega
  | wipe0 hk o1 => exact absurd o1 (e0 _ har)
  | wipe hk o1 hw =>
    obtain ⟨m, d3, h3⟩ := wipeD_run (d := putD d a (nb + 4) (sealF nb f)) (a := a + needN (nb + 4)) (b := b) har
    rw [hw] at h3
    cases h3
  | flush hk o1 hw o2 => exact absurd o2 (e0 _ ((wipeD_S hw).2.trans har))
  | write hk o1 hw o2 o3 => exact absurd o3 (e0 _ ((wipeD_S hw).2.trans har))
  | again hk o1 hw o2 o3 o4 => exact absurd o4 (e0 _ ((wipeD_S hw).2.trans har))
  | ok hk o1 hw o2 o3 o4 => rfl
/-- The new head. -/
theorem head_new {d3 : Dk} (hd : HdI d3 g) : HdI (flushD (writeD d3 ((g + 1) % 2) (headB (g + 1)))) (g + 1) where
  cur := fun x hx => by
    rw [flushD_S _ _ x hx, secV_some' (g := headB (g + 1)) (by show (if (((g + 1) % 2 : Nat) : Int) = (((g + 1) % 2 : Nat) : Int) then some (headB (g + 1)) else _) = _; rw [if_pos rfl])]
  old := fun x hx => by
    rw [flushD_S _ _ x hx]
    have e : (writeD d3 ((g + 1) % 2) (headB (g + 1))).L (((g + 1 + 1) % 2 : Nat) : Int) = none := by
      show (if (((g + 1 + 1) % 2 : Nat) : Int) = (((g + 1) % 2 : Nat) : Int) then some (headB (g + 1)) else d3.L _) = none
      rw [if_neg (by omega)]
      rcases Nat.mod_two_eq_zero_or_one g with q | q
      · rw [show (g + 1 + 1) % 2 = 0 by omega]; exact hd.l0
      · rw [show (g + 1 + 1) % 2 = 1 by omega]; exact hd.l1
    rw [secV_none' e]
    show d3.S _ = headB (g + 1 - 1) x
    rw [show (g + 1 + 1) % 2 = g % 2 by omega, show g + 1 - 1 = g by omega]
    exact hd.cur x hx
  l0 := rfl
  l1 := rfl
theorem LogI.headed {d3 : Dk} {h : Nat} {hb : Nat → Int} (hl : LogI d3 fi en su w c nl nf) (hf : 2 ≤ fi) (hh : h < 2) : LogI (writeD d3 h hb) fi en su w c nl nf :=
  hl.frame (fun _ _ _ _ _ => rfl) (fun t h1 h2 => by
    show (if (t : Int) = (h : Int) then some hb else d3.L (t : Int)) = _
    rw [if_neg (by omega)])
theorem LaidAs.fin {at' e : Int} {nb b a : Nat} (h : LaidAs d g a b nb f d' at' e) (he : e = 0) : at' = ((a + needN (nb + 4) : Nat) : Int) ∧ ∃ d2 d3, Fr d d2 a b ∧ d3 = flushD d2 ∧ (∀ nl nf, nl 0 = nb → nf 0 = f → LogI d3 a b 1 (stN a nl 1) 1 nl nf) ∧ d' = flushD (writeD d3 (g % 2) (headB g)) := by
  cases h with
  | early _ => exact absurd he (by decide)
  | flushed _ => exact absurd he (by decide)
  | torn _ _ _ => exact absurd he (by decide)
  | done h1 h2 h3 => exact ⟨rfl, _, _, h1, h2, h3, rfl⟩
theorem LaidAs.cut {at' e : Int} {nb b a : Nat} (h : LaidAs d g a b nb f d' at' e) (he : e = 6) : Fr d d' a b ∨ (∃ d2, Fr d d2 a b ∧ d' = flushD d2) ∨ ∃ d2 d3, Fr d d2 a b ∧ d3 = flushD d2 ∧ (∀ nl nf, nl 0 = nb → nf 0 = f → LogI d3 a b 1 (stN a nl 1) 1 nl nf) ∧ d' = writeD d3 (g % 2) (headB g) := by
  cases h with
  | early h => exact .inl h
  | flushed h => exact .inr (.inl ⟨_, h, rfl⟩)
  | torn h1 h2 h3 => exact .inr (.inr ⟨_, _, h1, h2, h3, rfl⟩)
  | done _ _ _ => exact absurd he (by decide)
theorem wipeP_none {V : Nat → Nat → Int} {ar : Bool} : ∀ (k x n : Nat) (L : Int → Option (Nat → Int)) (ca : Int), (wipeP V ar k x n L ca).1 = none → ar = true ∧ (wipeP V ar k x n L ca).2.2 = 0 := by
  intro k
  induction k with
  | zero => intro x n L ca h; cases h
  | succ k ih =>
    intro x n L ca h
    by_cases ho : ar = true ∧ ca = 0
    · rw [wipeP_off ho]; exact ho
    · by_cases hb : ∀ i, i < 64 → V x i = 0
      · rw [wipeP_blank ho hb] at h ⊢; exact ih _ _ _ _ h
      · rw [wipeP_full ho hb] at h ⊢; exact ih _ _ _ _ h
theorem wipeD_none {d2 : Dk} {a b : Nat} (hw : wipeD d a b = (none, d2)) : offD d2 := by
  obtain ⟨e1, e2⟩ := Prod.mk.inj hw
  subst e2
  exact wipeP_none (V := fun i => secV d.S d.L i) (b - a) a 0 d.L d.ca e1
theorem putD_off (hk : putK d n < needN n) (hca : 0 ≤ d.ca) : offD (putD d w n f) := by
  unfold putK at hk
  cases har : d.ar with
  | false => rw [har] at hk; exact absurd hk (by simp)
  | true =>
    rw [har] at hk
    refine ⟨har, ?_⟩
    show (if d.ar = true then d.ca - (putK d n : Nat) else d.ca) = 0
    rw [if_pos har]
    unfold putK
    rw [if_pos har]
    rw [if_pos rfl] at hk
    omega
/-- Cut off, the power is gone. -/
theorem LayIs.off {at' e : Int} {b a : Nat} (h : LayIs d g a b n f d' at' e) (he : e = 6) (hca : 0 ≤ d.ca) : offD d' := by
  cases h with
  | put hk => exact putD_off hk hca
  | wipe0 hk o1 => exact o1
  | wipe hk o1 hw => exact wipeD_none hw
  | flush hk o1 hw o2 => exact o2
  | write hk o1 hw o2 o3 => exact o3
  | again hk o1 hw o2 o3 o4 => exact o4
  | ok hk o1 hw o2 o3 o4 => exact absurd he (by decide)
theorem LayIs.okd {at' e : Int} {b a : Nat} (h : LayIs d g a b n f d' at' e) (ok : DkOk s d) (hfit : a + needN n ≤ b ∧ b ≤ s) (hf : ∀ i, i < n → 0 ≤ f i ∧ f i ≤ 255) (h2 : 2 ≤ s) : DkOk s d' := by
  have okp : DkOk s (putD d a n f) := ok.put (by omega) hf
  have hi2 : g % 2 < s := by omega
  cases h with
  | put hk => exact okp
  | wipe0 hk o1 => exact okp
  | wipe hk o1 hw => exact okp.wipe hfit hw
  | flush hk o1 hw o2 => exact okp.wipe hfit hw
  | write hk o1 hw o2 o3 => exact (okp.wipe hfit hw).flush o2
  | again hk o1 hw o2 o3 o4 => exact ((okp.wipe hfit hw).flush o2).write o3 hi2 (fun x _ => headB_range g x)
  | ok hk o1 hw o2 o3 o4 => exact (((okp.wipe hfit hw).flush o2).write o3 hi2 (fun x _ => headB_range g x)).flush o4
theorem LayIs.ard {at' e : Int} {b a : Nat} (h : LayIs d g a b n f d' at' e) : d'.ar = d.ar := by
  cases h with
  | put hk => rfl
  | wipe0 hk o1 => rfl
  | wipe hk o1 hw => exact (wipeD_S hw).2
  | flush hk o1 hw o2 => exact (wipeD_S hw).2
  | write hk o1 hw o2 o3 => exact (wipeD_S hw).2
  | again hk o1 hw o2 o3 o4 => exact (wipeD_S hw).2
  | ok hk o1 hw o2 o3 o4 => exact (wipeD_S hw).2
end
end Go.WalLaw
namespace Go.Proofs.YtnjjgipblimbfaaDoor.Dsk
open Go.Eng
open Go.DskLaw (q64 secV isB needN pcs getP)
open Go.WalLaw
open Go.CrcLaw (four)
set_option maxRecDepth 100000
set_option maxHeartbeats 1000000
section
variable {P : Program} {fr : Nat → Int} {N s h g fi en K su c n : Nat} {d d1 : Dk} {nl ml : Nat → Nat} {nf mf : Nat → Nat → Int} {ks kb f : Nat → Int}
theorem newest_at {G : Gl} (hP : P = Tryd.prog) (hN : N = 64 * s) (hs : 4 ≤ s ∧ s ≤ 4096) (ok : DkOk s d) (ho : ¬ offD d) {g0 g1 : Nat} (h0 : GenIs (secV d.S d.L 0) 0 g0) (h1 : GenIs (secV d.S d.L 1) 1 g1) (hg : g = max g0 g1) :
    FnTr P G 56 [.ptr 0 0] (DHd N d) 3 (Gives (.tup [.int .i64 (g : Int), .lit .i64 0]) (DHd N d) 3) :=
  newest_fn (V := fun i => secV d.S d.L i) hP ho hN hs (fun i hi => ⟨rfl, ok.bytes i (by omega)⟩) h0 h1 hg
theorem records_at (hP : P = Tryd.prog) (hfr : ∀ i, fr i = ((four i).toNat : Int)) (hN : N = 64 * s) (hr : Reg s h g fi en) (ok : DkOk s d) (ho : ¬ offD d) {c0 last : Nat} {g0 gs : Nat → Nat × (Nat → Int)} (hR0 : recP (fun t => secV d.S d.L t) en (en - fi + 1) fi 0 g0 = (c0, gs, last)) :
    FnTr P (Gf fr) 67 [.ptr 0 0, .int .i64 (g : Int)] (DHd N d) 3 (Gives (.tup [.sl 3 1 (.l 0) (.s c0), .int .i64 (last : Int)]) ((3, LgR c0 (fun i => (gs i).1) (fun i => (gs i).2)) :: DHd N d) 4) :=
  records_own hP hfr hN hr ho (V := fun t => secV d.S d.L t) (fun i hi => ⟨rfl, ok.bytes i hi⟩) hR0

/-- An opened log's blocks. -/
abbrev OpH (N : Nat) (d : Dk) (g last K : Nat) (gs : Nat → Nat × (Nat → Int)) : Hl := LgH N d g last (gs 0).1 (gs 0).2 (.s 1) (K - 1) (K - 1) false K (fun i => (gs i).1) (fun i => (gs i).2)
/-- What may be read of records is opened; if the power goes, the records stay. -/
theorem open_read (hP : P = Tryd.prog) (hfr : ∀ i, fr i = ((four i).toNat : Int)) (hN : N = 64 * s) (hr : Reg s h g fi en) (hg : 0 < g) (ok : DkOk s d) (ho : ¬ offD d) {g0 g1 last : Nat} (h0 : GenIs (secV d.S d.L 0) 0 g0) (h1 : GenIs (secV d.S d.L 1) 1 g1) (hgg : g = max g0 g1) (hK : 1 ≤ K) (hl : last ≤ en) (hK6 : K ≤ 1000000) {g0' gs : Nat → Nat × (Nat → Int)} (hR0 : recP (fun t => secV d.S d.L t) en (en - fi + 1) fi 0 g0' = (K, gs, last)) :
    ∃ on d1, wipeD d last en = (on, d1) ∧ DkOk s d1 ∧
      ((on = none ∧ FnTr P (Gf fr) 32 [.ptr 0 0] (DHd N d) 3 (Gives (.tup [.nilp, .lit .i64 6]) (DHd N d1) 3)) ∨
      (∃ m, on = some m ∧ 0 < m ∧ offD d1 ∧ FnTr P (Gf fr) 32 [.ptr 0 0] (DHd N d) 3 (Gives (.tup [.nilp, .lit .i64 6]) (DHd N d1) 3)) ∨
      (∃ m d2, on = some m ∧ DkOk s d2 ∧ (m = 0 ∧ d2 = d1 ∨ 0 < m ∧ ¬ offD d1 ∧ d2 = flushD d1) ∧ FnTr P (Gf fr) 32 [.ptr 0 0] (DHd N d) 3 (Gives (.tup [.ptr 3 0, .lit .i64 0]) (OpH N d2 g last K gs) 100))) := by
  have cN := newest_at (P := P) (G := Gf fr) hP hN hr.hs ok ho h0 h1 hgg
  have cR := records_at hP hfr hN hr ok ho hR0
  obtain ⟨⟨on, d1⟩, hw⟩ : ∃ r, wipeD d last en = r := ⟨_, rfl⟩
  have ok1 := ok.wipe ⟨hl, hr.le.2.2⟩ hw
  obtain ⟨cc, hcc⟩ : ∃ cc, K = cc + 1 := ⟨K - 1, by omega⟩
  have hcc2 : cc = K - 1 := by omega
  refine ⟨on, d1, hw, ok1, ?_⟩
  cases on with
  | none => exact .inl ⟨rfl, open_part hP hN hr hg (by omega) ok ho hl hw cN cR⟩
  | some m =>
    rcases Nat.eq_zero_or_pos m with hm | hm
    · refine .inr (.inr ⟨m, d1, rfl, ok1, .inl ⟨hm, rfl⟩, ?_⟩)
      have := open_ok0 hP hN hr hg hcc hK6 ok ho hl hm hw cN cR
      rw [hcc2] at this
      exact this
    · by_cases o1 : offD d1
      · exact .inr (.inl ⟨m, rfl, hm, o1, open_offF hP hN hr hg hcc hK6 ok ho hl hm ok1 o1 hw cN cR⟩)
      · refine .inr (.inr ⟨m, flushD d1, rfl, ok1.flush o1, .inr ⟨hm, o1, rfl⟩, ?_⟩)
        have := open_okF hP hN hr hg hcc hK6 ok ho hl hm ok1 o1 rfl hw cN cR
        rw [hcc2] at this
        exact this
theorem img_small (hr : Reg s h g fi en) (hi : ImgD d g fi en K nl nf) : K ≤ 4096 := by
  have h1 := hi.hK.2
  have h2 : fi + K ≤ stN fi nl K := DskLaw.le_atN fi (fun i => nl i + 4) K
  have h3 := hr.le
  have h4 := hr.hs
  omega
theorem open_img (hP : P = Tryd.prog) (hfr : ∀ i, fr i = ((four i).toNat : Int)) (hN : N = 64 * s) (hr : Reg s h g fi en) (hg : 0 < g) (ok : DkOk s d) (hL : ∀ k, d.L k = none) (hi : ImgD d g fi en K nl nf) :
    ∃ d2, DkOk s d2 ∧ ImgD d2 g fi en K nl nf ∧ ((d.ar = true ∧ FnTr P (Gf fr) 32 [.ptr 0 0] (DHd N d) 3 (Gives (.tup [.nilp, .lit .i64 6]) (DHd N d2) 3)) ∨
      ∃ gs last, Same K gs nl nf ∧ last = stN fi nl K ∧ (d.ar = false → d2.ar = false) ∧ FnTr P (Gf fr) 32 [.ptr 0 0] (DHd N d) 3 (Gives (.tup [.ptr 3 0, .lit .i64 0]) (OpH N d2 g last K gs) 100)) := by
  by_cases ho : offD d
  · exact ⟨d, ok, hi, .inl ⟨ho.1, open_off hP hN hr.hs ho⟩⟩
  obtain ⟨g0, g1, h0, h1, hgg⟩ := hi.gens hL
  obtain ⟨gs, hR0, hsame⟩ := hi.read hL (fun _ => (0, fun _ => 0))
  have hsm := img_small hr hi
  obtain ⟨on, d1, hw, ok1, hc⟩ := open_read hP hfr hN hr hg ok ho h0 h1 hgg hi.hK.1 hi.hK.2 (by omega) hR0
  have i1 := hi.wipe hw
  have har := (wipeD_S hw).2
  rcases hc with ⟨e, cc⟩ | ⟨m, e, hm, o1, cc⟩ | ⟨m, d2, e, ok2, hd, cc⟩
  · refine ⟨d1, ok1, i1, .inl ⟨?_, cc⟩⟩
    cases e1 : d.ar with
    | true => rfl
    | false =>
      obtain ⟨m', d', h'⟩ := wipeD_run (a := stN fi nl K) (b := en) e1
      rw [hw, e] at h'
      cases h'
  · exact ⟨d1, ok1, i1, .inl ⟨by rw [← har]; exact o1.1, cc⟩⟩
  · rcases hd with ⟨_, e2⟩ | ⟨_, o1, e2⟩
    · exact ⟨d2, ok2, by rw [e2]; exact i1, .inr ⟨gs, _, hsame, rfl, fun q => by rw [e2, har]; exact q, cc⟩⟩
    · exact ⟨d2, ok2, by rw [e2]; exact i1.flush hr.le.1, .inr ⟨gs, _, hsame, rfl, fun q => by rw [e2]; show d1.ar = false; rw [har]; exact q, cc⟩⟩
/-- With power, it is opened. -/
theorem open_run (hP : P = Tryd.prog) (hfr : ∀ i, fr i = ((four i).toNat : Int)) (hN : N = 64 * s) (hr : Reg s h g fi en) (hg : 0 < g) (ok : DkOk s d) (hL : ∀ k, d.L k = none) (hi : ImgD d g fi en K nl nf) (har : d.ar = false) :
    ∃ d2 gs last, DkOk s d2 ∧ ImgD d2 g fi en K nl nf ∧ Same K gs nl nf ∧ last = stN fi nl K ∧ d2.ar = false ∧ FnTr P (Gf fr) 32 [.ptr 0 0] (DHd N d) 3 (Gives (.tup [.ptr 3 0, .lit .i64 0]) (OpH N d2 g last K gs) 100) := by
  obtain ⟨d2, ok2, i2, h⟩ := open_img hP hfr hN hr hg ok hL hi
  rcases h with ⟨e, _⟩ | ⟨gs, last, h1, h2, h3, h4⟩
  · rw [har] at e; cases e
  · exact ⟨d2, gs, last, ok2, i2, h1, h2, h3 har, h4⟩

/-! ### A log that is alive -/
def cons0 {α : Type} (a : α) (f : Nat → α) : Nat → α
  | 0 => a
  | i + 1 => f i
structure LgSt (s h : Nat) (d : Dk) (g fi en su c bn : Nat) (b : Nat → Int) (ml : Nat → Nat) (mf : Nat → Nat → Int) : Prop where
  reg : Reg s h g fi en
  gle : 1 ≤ g ∧ g ≤ 1099511627776
  ok : DkOk s d
  log : LogI d fi en (su + 1) (stN fi (cons0 bn ml) (c + 1)) (c + 1) (cons0 bn ml) (cons0 b mf)
  hd : HdI d g
/-- Wherever a log ends. -/
abbrev atL (fi bn : Nat) (ml : Nat → Nat) (c : Nat) : Nat := stN fi (cons0 bn ml) (c + 1)
theorem cons0_at {α : Type} {a : α} {f : Nat → α} (i : Nat) : cons0 a f (i + 1) = f i := rfl
theorem LgSt.atle {bn : Nat} {b : Nat → Int} (st : LgSt s h d g fi en su c bn b ml mf) : atL fi bn ml c ≤ en := st.log.hen
theorem LgSt.small {bn : Nat} {b : Nat → Int} (st : LgSt s h d g fi en su c bn b ml mf) : su ≤ c ∧ c ≤ 4096 := by
  have h1 := st.log.hen
  have h2 : fi + (c + 1) ≤ stN fi (cons0 bn ml) (c + 1) := DskLaw.le_atN fi (fun i => cons0 bn ml i + 4) (c + 1)
  have h3 := st.reg.le
  have h4 := st.reg.hs
  have h5 := st.log.hsu
  omega
/-- A fresh disk: a log with a base alone. -/
theorem begin_st {bn : Nat} {b : Nat → Int} (hP : P = Tryd.prog) (hfr : ∀ i, fr i = ((four i).toNat : Int)) (hN : N = 64 * s) (hr : Reg s h 1 fi en) (hb : ∀ i, i < bn → 0 ≤ b i ∧ b i ≤ 255) (hn : bn + 4 ≤ 65536) (hnh : needN (bn + 4) ≤ h) (hS : ∀ x, d.S x = 0) (hL : ∀ k, d.L k = none) (har : d.ar = false) (hca : d.ca = 0) (ml : Nat → Nat) (mf : Nat → Nat → Int) :
    ∃ d1, d1.ar = false ∧ (∀ k, d1.L k = none) ∧ LgSt s h d1 1 fi en 0 0 bn b ml mf ∧ FnTr P (Gf fr) 23 [.ptr 0 0, By bn b] (DHd N d) 3 (Gives (.tup [.ptr 3 0, .lit .i64 0]) (LgH N d1 1 (atL fi bn ml 0) bn b (.l 0) 0 0 false 0 ml mf) 9000) := by
  have ok : DkOk s d := ⟨by rw [hca]; decide, fun k g e => (by rw [hL] at e; cases e), fun x _ => (by rw [hS]; decide), fun k g e => (by rw [hL] at e; cases e)⟩
  have h0 : HdI d 0 := ⟨fun x _ => (by rw [hS, headB_zero]), fun x _ => (by rw [hS]; exact (headB_zero x).symm), hL 0, hL 1⟩
  have hle := hr.le
  have hs := hr.hs
  have hen := hr.hen
  have ho : ¬ offD d := fun q => by have := q.1; rw [har] at this; cases this
  obtain ⟨d1, at', e, hl⟩ := layIs_ex d 1 fi en (bn + 4) (sealF bn b)
  have he : e = 0 := hl.run har
  obtain ⟨hat, d2, d3, hF, h3, hlog, hd1⟩ := (hl.laid hn (by omega)).fin he
  obtain ⟨g0, g1, e0, e1, eg⟩ := h0.gens (by omega)
  have cN := newest_at (P := P) (G := Gf fr) hP hN hs ok ho e0 e1 eg
  rcases lay_fn hP hfr hN hr hb rfl hn hnh ok hl with ⟨e6, _⟩ | ⟨_, _, cL⟩
  · omega
  have hd3 : HdI d3 0 := by rw [h3]; exact (hF.head h0 hle.1).flush
  refine ⟨d1, hl.ard.trans har, fun k => by rw [hd1]; rfl, ⟨hr, by omega, hl.okd ok ⟨by omega, hle.2.2⟩ (fun i _ => sealF_range hb i) (by omega), ?_, ?_⟩, ?_⟩
  · have hq := hlog (cons0 bn ml) (cons0 b mf) rfl rfl
    rw [hd1]
    exact (hq.headed hle.1 (by omega)).flush
  · rw [hd1]; exact head_new hd3
  · exact begin_ok hP hN hs hr.hh (by omega) (by omega) cN (by omega) rfl cL ml mf

/-- A note that is put behind the others. -/
theorem append_st {bn : Nat} {b : Nat → Int} {ml' : Nat → Nat} {mf' : Nat → Nat → Int} (hP : P = Tryd.prog) (hfr : ∀ i, fr i = ((four i).toNat : Int)) (hN : N = 64 * s) (st : LgSt s h d g fi en su c bn b ml mf) (hb : ∀ i, i < n → 0 ≤ f i ∧ f i ≤ 255) (hn : n + 4 ≤ 65536) (hml : ∀ i, ml' i = if i < c then ml i else n) (hmf : ∀ i x, mf' i x = if i < c then mf i x else f x) :
    (en < atL fi bn ml c + needN (n + 4) ∧ FnTr P (Gf fr) 26 [.ptr 3 0, By n f] (LgH N d g (atL fi bn ml c) bn b (.l 0) c su false c ml mf) 5 (Gives (.lit .i64 2) (LgH N d g (atL fi bn ml c) bn b (.l 0) c su false c ml mf) 3000)) ∨
    (∃ d1 w, DkOk s d1 ∧ offD d1 ∧ LogI d1 fi en (su + 1) w (c + 1 + 1) (cons0 bn ml') (cons0 b mf') ∧ HdI d1 g ∧ d.ar = true ∧ FnTr P (Gf fr) 26 [.ptr 3 0, By n f] (LgH N d g (atL fi bn ml c) bn b (.l 0) c su false c ml mf) 5 (Gives (.lit .i64 6) (LgH N d1 g (atL fi bn ml c) bn b (.l 0) c su true c ml mf) 3000)) ∨
    (∃ d1, d1.ar = d.ar ∧ atL fi bn ml c + needN (n + 4) ≤ en ∧ atL fi bn ml' (c + 1) = atL fi bn ml c + needN (n + 4) ∧ LgSt s h d1 g fi en su (c + 1) bn b ml' mf' ∧ FnTr P (Gf fr) 26 [.ptr 3 0, By n f] (LgH N d g (atL fi bn ml c) bn b (.l 0) c su false c ml mf) 5 (Gives (.lit .i64 0) (LgQ 5 N d1 g (atL fi bn ml' (c + 1)) bn b (.l 0) (c + 1) su false (c + 1) ml' mf') 3000)) := by
  have hat := st.atle
  have hle := st.reg.le
  have hsm := st.small
  have cf : ∀ r : Bool, (r = true ↔ needN (n + 4) ≤ en - atL fi bn ml c) → FnTr P (Gf fr) 53 [.ptr 3 0, .int .i64 (n : Int)] (LgH N d g (atL fi bn ml c) bn b (.l 0) c su false c ml mf) 5 (Gives (.bs r) (LgH N d g (atL fi bn ml c) bn b (.l 0) c su false c ml mf) 200) := fun r hr =>
    fits_fn (nn := n) hP hN st.reg hat (by omega) (by omega) rfl hr
  by_cases hfit : needN (n + 4) ≤ en - atL fi bn ml c
  · have ok := st.ok
    have e1 : ∀ i, i < c + 1 → cons0 bn ml' i = cons0 bn ml i := fun i hi => by
      cases i with
      | zero => rfl
      | succ i => rw [cons0_at, cons0_at, hml, if_pos (by omega)]
    have e2 : ∀ i, i < c + 1 → cons0 b mf' i = cons0 b mf i := fun i hi => by
      cases i with
      | zero => rfl
      | succ i => rw [cons0_at, cons0_at]; funext x; rw [hmf, if_pos (by omega)]
    have e3 : cons0 bn ml' (c + 1) = n := by rw [cons0_at, hml, if_neg (by omega)]
    have e4 : cons0 b mf' (c + 1) = f := by rw [cons0_at]; funext x; rw [hmf, if_neg (by omega)]
    have hput := LogI.put (nl' := cons0 bn ml') (nf' := cons0 b mf') st.log hn (by show atL fi bn ml c + _ ≤ _; omega) e1 e2 e3 e4
    obtain ⟨d1, hd1⟩ : ∃ d1, d1 = putD d (atL fi bn ml c) (n + 4) (sealF n f) := ⟨_, rfl⟩
    have hput : LogI d1 fi en (su + 1) (atL fi bn ml c + putK d (n + 4)) (c + 1 + 1) (cons0 bn ml') (cons0 b mf') := by rw [hd1]; exact hput
    have okp : DkOk s d1 := by rw [hd1]; exact ok.put (by omega) (fun i _ => sealF_range hb i)
    have hh : HdI d1 g := by rw [hd1]; exact (Fr.put (d := d) (f := sealF n f) (b := en) (by omega)).head st.hd (by
      have : fi ≤ atL fi bn ml c := stN_mono (fi := fi) (nl := cons0 bn ml) (i := 0) (by omega)
      omega)
    have cF := cf true ⟨fun _ => hfit, fun _ => rfl⟩
    rcases Nat.lt_or_ge (putK d (n + 4)) (needN (n + 4)) with hk | hk
    · refine .inr (.inl ⟨d1, _, okp, by rw [hd1]; exact putD_off hk ok.hca.1, hput, hh, ?_, ?_⟩)
      · cases e : d.ar with
        | true => rfl
        | false => unfold putK at hk; rw [e] at hk; simp at hk
      · exact append_part (nl := ml) (nf := mf) (mf := fun _ => sealF n f) hP hfr rfl hN st.reg hb hn rfl (fun i _ => rfl) ok (by omega) hk hd1 cF
    · have hk : putK d (n + 4) = needN (n + 4) := Nat.le_antisymm (putK_le _ _) hk
      have ea : atL fi bn ml' (c + 1) = atL fi bn ml c + needN (n + 4) := by
        show stN fi (cons0 bn ml') (c + 1 + 1) = _
        rw [stN_succ, e3, stN_congr e1 _ (Nat.le_refl _)]
      refine .inr (.inr ⟨d1, by rw [hd1]; rfl, by omega, ea, ⟨st.reg, st.gle, okp, ?_, hh⟩, ?_⟩)
      · rw [hk, ← ea] at hput; exact hput
      · exact append_ok (nl := ml) (nf := mf) (ml := ml') (mf := mf') (n := n) (m := n + 4) hP hfr rfl hN st.reg hb hn rfl (fun i _ => rfl) (fun i _ => rfl) ok (by omega) hk hd1 ea (by omega) rfl hml hmf cF
  · exact .inl ⟨by omega, append_full hP rfl (cf false ⟨fun h => (by cases h), fun h => absurd h hfit⟩)⟩
/-- With power and room. -/
theorem append_run {bn : Nat} {b : Nat → Int} {ml' : Nat → Nat} {mf' : Nat → Nat → Int} (hP : P = Tryd.prog) (hfr : ∀ i, fr i = ((four i).toNat : Int)) (hN : N = 64 * s) (st : LgSt s h d g fi en su c bn b ml mf) (hb : ∀ i, i < n → 0 ≤ f i ∧ f i ≤ 255) (hn : n + 4 ≤ 65536) (hml : ∀ i, ml' i = if i < c then ml i else n) (hmf : ∀ i x, mf' i x = if i < c then mf i x else f x) (har : d.ar = false) (hfit : atL fi bn ml c + needN (n + 4) ≤ en) :
    ∃ d1, d1.ar = false ∧ atL fi bn ml' (c + 1) = atL fi bn ml c + needN (n + 4) ∧ LgSt s h d1 g fi en su (c + 1) bn b ml' mf' ∧ FnTr P (Gf fr) 26 [.ptr 3 0, By n f] (LgH N d g (atL fi bn ml c) bn b (.l 0) c su false c ml mf) 5 (Gives (.lit .i64 0) (LgQ 5 N d1 g (atL fi bn ml' (c + 1)) bn b (.l 0) (c + 1) su false (c + 1) ml' mf') 3000) := by
  rcases append_st hP hfr hN st hb hn hml hmf with ⟨q, _⟩ | ⟨_, _, _, _, _, _, q, _⟩ | ⟨d1, e1, _, e2, e3, e4⟩
  · omega
  · rw [har] at q; cases q
  · exact ⟨d1, e1.trans har, e2, e3, e4⟩
theorem sync_st {bn : Nat} {b : Nat → Int} {G : Gl} (hP : P = Tryd.prog) (hN : N = 64 * s) (st : LgSt s h d g fi en su c bn b ml mf) (ho : ¬ offD d) :
    ∃ d1, d1.ar = d.ar ∧ (∀ k, d1.L k = none) ∧ LgSt s h d1 g fi en c c bn b ml mf ∧ FnTr P G 28 [.ptr 3 0] (LgH N d g (atL fi bn ml c) bn b (.l 0) c su false c ml mf) 5 (Gives (.lit .i64 0) (LgH N d1 g (atL fi bn ml c) bn b (.l 0) c c false c ml mf) 100) :=
  ⟨flushD d, rfl, fun _ => rfl, ⟨st.reg, st.gle, st.ok.flush ho, st.log.flush, st.hd.flush⟩, sync_ok hP rfl hN ⟨by have := st.reg.hs; omega, st.reg.hs.2⟩ st.ok ho rfl⟩
end
end Go.Proofs.YtnjjgipblimbfaaDoor.Dsk
namespace Go.Proofs.YtnjjgipblimbfaaDoor.Dsk
open Go.Eng
open Go.DskLaw (q64 secV isB needN pcs getP)
open Go.WalLaw
open Go.CrcLaw (four)
set_option maxRecDepth 100000
set_option maxHeartbeats 4000000
theorem lit_byte (l : List Int) (h : ∀ x ∈ l, 0 ≤ x ∧ x ≤ 255) (i : Nat) : 0 ≤ l.getD i 0 ∧ l.getD i 0 ≤ 255 := by
  rcases Nat.lt_or_ge i l.length with q | q
  · rw [List.getD_eq_getElem?_getD, List.getElem?_eq_getElem q]; exact h _ (List.getElem_mem q)
  · rw [List.getD_eq_getElem?_getD, List.getElem?_eq_none q]; decide
/-- What happens in the short run. -/
theorem lives27_facts {P : Program} (hP : P = Tryd.prog) {fr : Nat → Int} (hfr : ∀ i, fr i = ((four i).toNat : Int)) {z bb b1 b2 b3 : Nat → Int} {L0 : Int → Option (Nat → Int)} (hz : ∀ x, z x = 0) (hL : ∀ k, L0 k = none) (rb : ∀ i, 0 ≤ bb i ∧ bb i ≤ 255) (r1 : ∀ i, 0 ≤ b1 i ∧ b1 i ≤ 255) (r2 : ∀ i, 0 ≤ b2 i ∧ b2 i ≤ 255) (r3 : ∀ i, 0 ≤ b3 i ∧ b3 i ≤ 255) :
    ∃ (d1 d2 d3 d4 d5 d6 d7 d8 : Dk) (m0 m1 m2 m3 : Nat → Nat) (n0 n1 n2 n3 : Nat → Nat → Int) (gl nl : Nat → Nat) (gf nf : Nat → Nat → Int) (w0 : Nat) (wf : Nat → Int),
      FnTr P (Gf fr) 32 [.ptr 0 0] (DHd 640 ⟨z, L0, false, 0⟩) 3 (Gives (.tup [.nilp, .lit .i64 4]) (DHd 640 ⟨z, L0, false, 0⟩) 3) ∧
      FnTr P (Gf fr) 23 [.ptr 0 0, By 4 bb] (DHd 640 ⟨z, L0, false, 0⟩) 3 (Gives (.tup [.ptr 3 0, .lit .i64 0]) (LgH 640 d1 1 7 4 bb (.l 0) 0 0 false 0 m0 n0) 9000) ∧
      FnTr P (Gf fr) 26 [.ptr 3 0, By 3 b1] (LgH 640 d1 1 7 4 bb (.l 0) 0 0 false 0 m0 n0) 5 (Gives (.lit .i64 0) (LgQ 5 640 d2 1 8 4 bb (.l 0) 1 0 false 1 m1 n1) 3000) ∧
      FnTr P (Gf fr) 26 [.ptr 3 0, By 0 z] (LgH 640 d2 1 8 4 bb (.l 0) 1 0 false 1 m1 n1) 5 (Gives (.lit .i64 0) (LgQ 5 640 d3 1 9 4 bb (.l 0) 2 0 false 2 m2 n2) 3000) ∧
      FnTr P (Gf fr) 28 [.ptr 3 0] (LgH 640 d3 1 9 4 bb (.l 0) 2 0 false 2 m2 n2) 5 (Gives (.lit .i64 0) (LgH 640 d4 1 9 4 bb (.l 0) 2 2 false 2 m2 n2) 100) ∧
      FnTr P (Gf fr) 26 [.ptr 3 0, By 4 b2] (LgH 640 d4 1 9 4 bb (.l 0) 2 2 false 2 m2 n2) 5 (Gives (.lit .i64 0) (LgQ 5 640 d5 1 10 4 bb (.l 0) 3 2 false 3 m3 n3) 3000) ∧
      FnTr P (Gf fr) 40 [.ptr 0 0, .ro 2 (.s 0) (fun e => [.int .i64 (z e.val), .int .i64 (z e.val)])] (DHd 640 d5) 3 (Gives (.tup []) (DHd 640 d6) 3) ∧
      FnTr P (Gf fr) 32 [.ptr 0 0] (DHd 640 d6) 3 (Gives (.tup [.ptr 3 0, .lit .i64 0]) (LgH 640 d7 1 9 w0 wf (.s 1) 2 2 false 3 gl gf) 100) ∧
      FnTr P (Gf fr) 35 [.ptr 3 0] (LgH 640 d7 1 9 w0 wf (.s 1) 2 2 false 3 gl gf) 5 (Gives (NtS 2 nl nf) (LgH 640 d7 1 9 w0 wf (.s 1) 2 2 false 3 gl gf) 6) ∧
      (nl 0 = 3 ∧ nl 1 = 0 ∧ ∀ x, x < 3 → nf 0 x = b1 x) ∧
      FnTr P (Gf fr) 26 [.ptr 3 0, By 59 z] (LgH 640 d7 1 9 w0 wf (.s 1) 2 2 false 3 gl gf) 5 (Gives (.lit .i64 2) (LgH 640 d7 1 9 w0 wf (.s 1) 2 2 false 3 gl gf) 3000) ∧
      FnTr P (Gf fr) 38 [.ptr 3 0, By 3 b3] (LgH 640 d7 1 9 w0 wf (.s 1) 2 2 false 3 gl gf) 5 (Gives (.lit .i64 0) (LgQ 5 640 d8 2 3 3 b3 (.l 0) 0 0 false 0 m0 n0) 5000) := by
  obtain ⟨m0, hm0⟩ : ∃ m0 : Nat → Nat, m0 = fun _ => 0 := ⟨_, rfl⟩
  obtain ⟨n0, hn0⟩ : ∃ n0 : Nat → Nat → Int, n0 = fun _ _ => 0 := ⟨_, rfl⟩
  obtain ⟨m1, hm1⟩ : ∃ m1 : Nat → Nat, ∀ i, m1 i = if i < 0 then m0 i else 3 := ⟨_, fun _ => rfl⟩
  obtain ⟨n1, hn1⟩ : ∃ n1 : Nat → Nat → Int, ∀ i x, n1 i x = if i < 0 then n0 i x else b1 x := ⟨_, fun _ _ => rfl⟩
  obtain ⟨m2, hm2⟩ : ∃ m2 : Nat → Nat, ∀ i, m2 i = if i < 1 then m1 i else 0 := ⟨_, fun _ => rfl⟩
  obtain ⟨n2, hn2⟩ : ∃ n2 : Nat → Nat → Int, ∀ i x, n2 i x = if i < 1 then n1 i x else z x := ⟨_, fun _ _ => rfl⟩
  obtain ⟨m3, hm3⟩ : ∃ m3 : Nat → Nat, ∀ i, m3 i = if i < 2 then m2 i else 4 := ⟨_, fun _ => rfl⟩
  obtain ⟨n3, hn3⟩ : ∃ n3 : Nat → Nat → Int, ∀ i x, n3 i x = if i < 2 then n2 i x else b2 x := ⟨_, fun _ _ => rfl⟩
  have rz : ∀ i, 0 ≤ z i ∧ z i ≤ 255 := fun i => by rw [hz]; decide
  have reg1 : Reg 10 4 1 6 10 := ⟨by omega, rfl, by omega, rfl, rfl⟩
  have reg2 : Reg 10 4 2 2 6 := ⟨by omega, rfl, by omega, rfl, rfl⟩
  have ok0 : DkOk 10 ⟨z, L0, false, 0⟩ := ⟨(by show (0 : Int) ≤ 0 ∧ (0 : Int) ≤ _; decide), fun k g e => (by have e : L0 k = some g := e; rw [hL] at e; cases e), fun x _ => rz x, fun k g e => (by have e : L0 k = some g := e; rw [hL] at e; cases e)⟩
  have off0 : ∀ d : Dk, d.ar = false → ¬ offD d := fun d h q => by have := q.1; rw [h] at this; cases this
  have hd0 : HdI ⟨z, L0, false, 0⟩ 0 := ⟨fun x _ => (by show z _ = _; rw [hz, headB_zero]), fun x _ => (by show z _ = _; rw [hz]; exact (headB_zero x).symm), hL 0, hL 1⟩
  obtain ⟨g0, g1, e0, e1, eg⟩ := hd0.gens (by omega)
  have cO := open_none (P := P) (G := Gf fr) (N := 640) (s := 10) hP rfl (by omega) rfl (newest_at hP rfl (by omega) ok0 (off0 _ rfl) e0 e1 eg)
  obtain ⟨d1, ar1, _, st1, cB⟩ := begin_st hP hfr (N := 640) (d := ⟨z, L0, false, 0⟩) rfl reg1 (bn := 4) (b := bb) (fun i _ => rb i) (by omega) (by decide) hz hL rfl rfl m0 n0
  have a1 : atL 6 4 m0 0 = 7 := by show 6 + needN 8 = 7; decide
  obtain ⟨d2, ar2, a2, st2, cA⟩ := append_run hP hfr (N := 640) rfl st1 (fun i _ => r1 i) (by omega) hm1 hn1 ar1 (by rw [a1]; decide)
  have a2 : atL 6 4 m1 1 = 8 := a2.trans (by rw [a1]; decide)
  obtain ⟨d3, ar3, a3, st3, cA2⟩ := append_run hP hfr (N := 640) rfl st2 (n := 0) (f := z) (fun i _ => rz i) (by omega) hm2 hn2 ar2 (by rw [a2]; decide)
  have a3 : atL 6 4 m2 2 = 9 := a3.trans (by rw [a2]; decide)
  obtain ⟨d4, ar4, _, st4, cS⟩ := sync_st (P := P) (G := Gf fr) (N := 640) hP rfl st3 (off0 _ ar3)
  obtain ⟨d5, ar5, a5, st5, cA3⟩ := append_run hP hfr (N := 640) rfl st4 (n := 4) (f := b2) (fun i _ => r2 i) (by omega) hm3 hn3 (ar4.trans ar3) (by rw [a3]; decide)
  have a5 : atL 6 4 m3 3 = 10 := a5.trans (by rw [a3]; decide)
  have ok6 : DkOk 10 (crashD d5 z z 0) := st5.ok.crash
  have i6 : ImgD (crashD d5 z z 0) 1 6 10 3 (cons0 4 m3) (cons0 bb n3) := st5.log.crash0 st5.hd (by omega)
  have cC := crash_fn (P := P) (G := Gf fr) (N := 640) (s := 10) (n := 0) (S := d5.S) (L := d5.L) (S' := (crashD d5 z z 0).S) (L' := (crashD d5 z z 0).L) (ar := d5.ar) (ca := d5.ca) (ks := z) (kb := z) hP rfl (by omega) (by omega) st5.ok.key (fun x _ => rfl) (fun _ => rfl)
  obtain ⟨d7, gs, last, ok7, i7, same7, hlast, ar7, cO7⟩ := open_run hP hfr (N := 640) rfl reg1 (by omega) ok6 (fun _ => rfl) i6 rfl
  have hm30 : m3 0 = 3 := by rw [hm3, if_pos (by omega), hm2, if_pos (by omega), hm1, if_neg (by omega)]
  have hm31 : m3 1 = 0 := by rw [hm3, if_pos (by omega), hm2, if_neg (by omega)]
  have el : last = 9 := by
    rw [hlast]
    show stN 6 (cons0 4 m3) 2 + needN (cons0 4 m3 2 + 4) = 9
    show 6 + needN 8 + needN (m3 0 + 4) + needN (m3 1 + 4) = 9
    rw [hm30, hm31]
    decide
  rw [el] at cO7
  obtain ⟨nl, hnl⟩ : ∃ nl : Nat → Nat, ∀ i, nl i = (gs (1 + i)).1 := ⟨_, fun _ => rfl⟩
  obtain ⟨nf, hnf⟩ : ∃ nf : Nat → Nat → Int, ∀ i x, nf i x = (gs (1 + i)).2 x := ⟨_, fun _ _ => rfl⟩
  have s1 := same7 1 (by omega)
  have s2 := same7 2 (by omega)
  have s10 : (gs 1).1 = 3 := s1.1.trans hm30
  have s20 : (gs 2).1 = 0 := s2.1.trans hm31
  have cN := notes_fn (P := P) (G := Gf fr) (N := 640) (gen := 1) (at1 := 9) (nb := (gs 0).1) (b := (gs 0).2) (su := 2) (d := d7) (dead := false) (o := .s 1) (c := 2) (cn := 3) (nl := fun i => (gs i).1) (nf := fun i => (gs i).2) (ml := nl) (mf := nf) hP (.inr ⟨1, rfl⟩) rfl (by omega) (fun i hi => ⟨hnl i, by
    rw [hnl]
    rcases (show i = 0 ∨ i = 1 by omega) with rfl | rfl
    · rw [s10]; omega
    · rw [s20]; omega⟩) (fun i _ x => hnf i x)
  have cF := append_full (P := P) (G := Gf fr) (f := z) (n := 59) hP rfl (fits_fn (P := P) (G := Gf fr) (N := 640) (d := d7) (gen := 1) (at1 := 9) (nb := (gs 0).1) (b := (gs 0).2) (o := .s 1) (c := 2) (su := 2) (dead := false) (cn := 3) (nl := fun i => (gs i).1) (nf := fun i => (gs i).2) (n := (59 : Nat)) (nn := 59) (m := 2) (r := false) hP rfl reg1 (by omega) rfl (by omega) (by decide) ⟨fun h => (by cases h), fun h => absurd h (by decide)⟩)
  obtain ⟨d8, at', e, hl⟩ := layIs_ex d7 2 2 6 7 (sealF 3 b3)
  have he : e = 0 := hl.run (nb := 3) ar7
  rcases lay_fn (N := 640) hP hfr rfl reg2 (nb := 3) (fun i _ => r3 i) rfl (by omega) (by decide) ok7 hl with ⟨e6, _⟩ | ⟨_, _, cL⟩
  · omega
  rw [show 2 + needN (3 + 4) = 3 by decide] at cL
  have cW := switch_ok (P := P) (N := 640) (s := 10) (h := 4) (gen := 1) (at1 := 9) (nb := (gs 0).1) (b := (gs 0).2) (o := .s 1) (c := 2) (su := 2) (cn := 3) (dead := false) (nl := fun i => (gs i).1) (nf := fun i => (gs i).2) (at2 := 3) (ml := m0) (mf := n0) hP rfl rfl (by omega) rfl (by omega) (by decide) (by omega) rfl cL
  rw [a1] at cB cA
  rw [a2] at cA cA2
  rw [a3] at cA2 cS cA3
  rw [a5] at cA3
  exact ⟨d1, d2, d3, d4, d5, _, d7, d8, m0, m1, m2, m3, n0, n1, n2, n3, _, nl, _, nf, _, _, cO, cB, cA, cA2, cS, cA3, cC, cO7, cN, ⟨by rw [hnl]; exact s10, by rw [hnl]; exact s20, fun x hx => by
    rw [hnf, s1.2 x (by rw [hm30.symm] at hx; exact hx)]
    show n3 0 x = _
    rw [hn3, if_pos (by omega), hn2, if_pos (by omega), hn1, if_neg (by omega)]⟩, cF, cW⟩
end Go.Proofs.YtnjjgipblimbfaaDoor.Dsk
namespace Go.Proofs.YtnjjgipblimbfaaDoor.Dsk
open Go.Eng
open Go.DskLaw (q64 secV isB needN pcs getP)
open Go.WalLaw
open Go.CrcLaw (four)
set_option maxRecDepth 100000
set_option maxHeartbeats 4000000
theorem three_bytes {n : Nat} {f : Nat → Int} {a b c : Nat} (hn : n = 3) (h0 : f 0 = (a : Int)) (h1 : f 1 = (b : Int)) (h2 : f 2 = (c : Int)) : Ar.real.eqL (Ar.real.bytes n f) [UInt8.ofNat a, UInt8.ofNat b, UInt8.ofNat c] = true := by
  subst hn
  show ([UInt8.ofNat (f 0).toNat, UInt8.ofNat (f 1).toNat, UInt8.ofNat (f 2).toNat] == [UInt8.ofNat a, UInt8.ofNat b, UInt8.ofNat c]) = true
  rw [h0, h1, h2]
  exact beq_self_eq_true _
theorem lives27_fn {P : Program} (hP : P = Tryd.prog) {fr : Nat → Int} (hfr : ∀ i, fr i = ((four i).toNat : Int)) : FnTr P (Gf fr) 21 [] [] 0 (Gives (.bl true) [] 1000) := by
  obtain ⟨z, hz⟩ : ∃ z : Nat → Int, ∀ x, z x = 0 := ⟨fun _ => 0, fun _ => rfl⟩
  obtain ⟨L0, hL0⟩ : ∃ L0 : Int → Option (Nat → Int), ∀ k, L0 k = none := ⟨fun _ => none, fun _ => rfl⟩
  obtain ⟨bb, hbb⟩ : ∃ bb : Nat → Int, ∀ i, bb i = ([98, 97, 115, 101] : List Int).getD i 0 := ⟨_, fun _ => rfl⟩
  obtain ⟨b1, hb1⟩ : ∃ b1 : Nat → Int, ∀ i, b1 i = ([111, 110, 101] : List Int).getD i 0 := ⟨_, fun _ => rfl⟩
  obtain ⟨b2, hb2⟩ : ∃ b2 : Nat → Int, ∀ i, b2 i = ([108, 111, 115, 116] : List Int).getD i 0 := ⟨_, fun _ => rfl⟩
  obtain ⟨b3, hb3⟩ : ∃ b3 : Nat → Int, ∀ i, b3 i = ([110, 101, 119] : List Int).getD i 0 := ⟨_, fun _ => rfl⟩
  obtain ⟨d1, d2, d3, d4, d5, d6, d7, d8, m0, m1, m2, m3, n0, n1, n2, n3, gl, nl, gf, nf, w0, wf, cO, cB, cA, cA2, cS, cA3, cC, cO7, cN, hN, cF, cW⟩ := lives27_facts (P := P) hP hfr (z := z) (bb := bb) (b1 := b1) (b2 := b2) (b3 := b3) hz hL0 (fun i => (by rw [hbb]; exact lit_byte _ (by decide) i)) (fun i => (by rw [hb1]; exact lit_byte _ (by decide) i)) (fun i => (by rw [hb2]; exact lit_byte _ (by decide) i)) (fun i => (by rw [hb3]; exact lit_byte _ (by decide) i))
  have c1 := new_ok (P := P) (G := Gf fr) (n := 10) (s := 10) (N := 640) (S := z) (L := L0) hP rfl (by omega) rfl hz hL0
  have reg2 : Reg 10 4 2 2 6 := ⟨by omega, rfl, by omega, rfl, rfl⟩
  have e1 := base_fn (P := P) (G := Gf fr) (N := 640) (gen := 2) (at1 := 3) (nb := 3) (b := b3) (o := .l 0) (c := 0) (su := 0) (cn := 0) (d := d8) (dead := false) (nl := m0) (nf := n0) hP (by omega)
  have e2 := notes_fn (P := P) (G := Gf fr) (N := 640) (gen := 2) (at1 := 3) (nb := 3) (b := b3) (o := .l 0) (c := 0) (su := 0) (cn := 0) (d := d8) (dead := false) (nl := m0) (nf := n0) (ml := m0) (mf := n0) hP (.inl rfl) rfl (by omega) (fun i hi => by omega) (fun i hi => by omega)
  have e3 := generation_fn (P := P) (G := Gf fr) (N := 640) (gen := 2) (at1 := 3) (nb := 3) (b := b3) (o := .l 0) (c := 0) (su := 0) (cn := 0) (d := d8) (dead := false) (nl := m0) (nf := n0) hP
  have e4 := room_fn (P := P) (G := Gf fr) (N := 640) (gen := 2) (at1 := 3) (nb := 3) (b := b3) (o := .l 0) (c := 0) (su := 0) (cn := 0) (d := d8) (dead := false) (nl := m0) (nf := n0) hP rfl reg2 (by omega)
  have e5 := sureof_fn (P := P) (G := Gf fr) (N := 640) (gen := 2) (at1 := 3) (nb := 3) (b := b3) (o := .l 0) (c := 0) (su := 0) (cn := 0) (d := d8) (dead := false) (nl := m0) (nf := n0) hP
  have e6 := fits_fn (P := P) (G := Gf fr) (N := 640) (gen := 2) (at1 := 3) (nb := 3) (b := b3) (o := .l 0) (c := 0) (su := 0) (cn := 0) (d := d8) (dead := false) (nl := m0) (nf := n0) (n := 58) (nn := 58) (m := 1) (r := true) hP rfl reg2 (by omega) rfl (by omega) (by decide) ⟨fun _ => by decide, fun _ => rfl⟩
  have e7 := sync_nil (P := P) (G := Gf fr) hP
  have hT : T.Ok P := hP ▸ T_ok
  refine FnTr.intro (fn := Tryd.f21) (c := bodyOf Tryd.f21) (by rw [hP]; rfl) rfl rfl hT ?_
  generalize hA : Ar.real = A
  generalize hK : Gives _ _ _ = K
  cbv
  refine CS.le hA (c1) [] rfl rfl rfl ?_ ?_ ?_
  · (try cbv) <;> (repeat' (first | exact trivial | exact rfl | apply And.intro | exact fun _ => rfl | (intro _ hle; first | refine chunk_le hA rfl hle rfl ?_ | refine cat_le hA ?_ | refine upd_le hA ?_ | (try cbv)))) <;> (try (subst hA; (try simp only [natCast_eq] at *); (try (simp only [Ar.real, NV.val, Int.ofNat_eq_natCast, Int.toNat_natCast])); first | done | omega | decide | exact inR64 (by omega) (by omega) | (refine ⟨?_, ?_⟩ <;> first | omega | decide | exact inR64 (by omega) (by omega))))
  · (try cbv) <;> (repeat' (first | exact trivial | exact rfl | apply And.intro | exact fun _ => rfl | (intro _ hle; first | refine chunk_le hA rfl hle rfl ?_ | refine cat_le hA ?_ | refine upd_le hA ?_ | (try cbv))))
  cbv
  refine CS.le hA (cO) [(1, 0), (2, 1), (3, 2)] rfl rfl rfl ?_ ?_ ?_
  · (try cbv) <;> (repeat' (first | exact trivial | exact rfl | apply And.intro | exact fun _ => rfl | (intro _ hle; first | refine chunk_le hA rfl hle rfl ?_ | refine cat_le hA ?_ | refine upd_le hA ?_ | (try cbv)))) <;> (try (subst hA; (try simp only [natCast_eq] at *); (try (simp only [Ar.real, NV.val, Int.ofNat_eq_natCast, Int.toNat_natCast])); first | done | omega | decide | exact inR64 (by omega) (by omega) | (refine ⟨?_, ?_⟩ <;> first | omega | decide | exact inR64 (by omega) (by omega))))
  · (try cbv) <;> (repeat' (first | exact trivial | exact rfl | apply And.intro | exact fun _ => rfl | (intro _ hle; first | refine chunk_le hA rfl hle rfl ?_ | refine cat_le hA ?_ | refine upd_le hA ?_ | (try cbv))))
  cbv
  refine CS.frzA hA (by (try cbv) <;> (repeat' (first | exact trivial | exact rfl | apply And.intro | exact fun _ => rfl | (intro _ hle; first | refine chunk_le hA rfl hle rfl ?_ | refine cat_le hA ?_ | refine upd_le hA ?_ | (try cbv)))); all_goals (subst hA; (try simp only [natCast_eq] at *); (try (simp only [Ar.real, NV.val, Int.ofNat_eq_natCast, Int.toNat_natCast])); first | done | omega | decide | exact inR64 (by omega) (by omega) | (refine ⟨?_, ?_⟩ <;> first | omega | decide | exact inR64 (by omega) (by omega)))) ?_
  cbv
  refine CS.le hA (cB) [(1, 0), (2, 1), (3, 2)] rfl rfl rfl ?_ ?_ ?_
  · (try cbv) <;> (repeat' (first | exact trivial | exact rfl | apply And.intro | exact fun _ => rfl | (intro _ hle; first | refine chunk_le hA rfl hle rfl ?_ | refine cat_le hA ?_ | refine upd_le hA ?_ | (try cbv)))) <;> (try (subst hA; (try simp only [natCast_eq] at *); (try (simp only [Ar.real, NV.val, Int.ofNat_eq_natCast, Int.toNat_natCast])); first | done | omega | decide | exact inR64 (by omega) (by omega) | (refine ⟨?_, ?_⟩ <;> first | omega | decide | exact inR64 (by omega) (by omega)))) <;> (try first | exact (hbb _))
  · (try cbv) <;> (repeat' (first | exact trivial | exact rfl | apply And.intro | exact fun _ => rfl | (intro _ hle; first | refine chunk_le hA rfl hle rfl ?_ | refine cat_le hA ?_ | refine upd_le hA ?_ | (try cbv)))) <;> (try first | exact (hbb _))
  cbv
  refine CS.frzA hA (by (try cbv) <;> (repeat' (first | exact trivial | exact rfl | apply And.intro | exact fun _ => rfl | (intro _ hle; first | refine chunk_le hA rfl hle rfl ?_ | refine cat_le hA ?_ | refine upd_le hA ?_ | (try cbv)))); all_goals (subst hA; (try simp only [natCast_eq] at *); (try (simp only [Ar.real, NV.val, Int.ofNat_eq_natCast, Int.toNat_natCast])); first | done | omega | decide | exact inR64 (by omega) (by omega) | (refine ⟨?_, ?_⟩ <;> first | omega | decide | exact inR64 (by omega) (by omega)))) ?_
  cbv
  refine CS.le hA (cA) [(1, 0), (2, 1), (3, 2), (30, 3), (31, 4)] rfl rfl rfl ?_ ?_ ?_
  · (try cbv) <;> (repeat' (first | exact trivial | exact rfl | apply And.intro | exact fun _ => rfl | (intro _ hle; first | refine chunk_le hA rfl hle rfl ?_ | refine cat_le hA ?_ | refine upd_le hA ?_ | (try cbv)))) <;> (try (subst hA; (try simp only [natCast_eq] at *); (try (simp only [Ar.real, NV.val, Int.ofNat_eq_natCast, Int.toNat_natCast])); first | done | omega | decide | exact inR64 (by omega) (by omega) | (refine ⟨?_, ?_⟩ <;> first | omega | decide | exact inR64 (by omega) (by omega)))) <;> (try first | exact (hb1 _))
  · (try cbv) <;> (repeat' (first | exact trivial | exact rfl | apply And.intro | exact fun _ => rfl | (intro _ hle; first | refine chunk_le hA rfl hle rfl ?_ | refine cat_le hA ?_ | refine upd_le hA ?_ | (try cbv)))) <;> (try first | exact (hb1 _))
  cbv
  refine CS.le hA (cA2) [(1, 0), (2, 1), (3, 2), (30, 3), (9046, 4)] rfl rfl rfl ?_ ?_ ?_
  · (try cbv) <;> (repeat' (first | exact trivial | exact rfl | apply And.intro | exact fun _ => rfl | (intro _ hle; first | refine chunk_le hA rfl hle rfl ?_ | refine cat_le hA ?_ | refine upd_le hA ?_ | (try cbv)))) <;> (try (subst hA; (try simp only [natCast_eq] at *); (try (simp only [Ar.real, NV.val, Int.ofNat_eq_natCast, Int.toNat_natCast])); first | done | omega | decide | exact inR64 (by omega) (by omega) | (refine ⟨?_, ?_⟩ <;> first | omega | decide | exact inR64 (by omega) (by omega))))
  · (try cbv) <;> (repeat' (first | exact trivial | exact rfl | apply And.intro | exact fun _ => rfl | (intro _ hle; first | refine chunk_le hA rfl hle rfl ?_ | refine cat_le hA ?_ | refine upd_le hA ?_ | (try cbv))))
  cbv
  refine CS.le hA (cS) [(1, 0), (2, 1), (3, 2), (30, 3), (12047, 4)] rfl rfl rfl ?_ ?_ ?_
  · (try cbv) <;> (repeat' (first | exact trivial | exact rfl | apply And.intro | exact fun _ => rfl | (intro _ hle; first | refine chunk_le hA rfl hle rfl ?_ | refine cat_le hA ?_ | refine upd_le hA ?_ | (try cbv)))) <;> (try (subst hA; (try simp only [natCast_eq] at *); (try (simp only [Ar.real, NV.val, Int.ofNat_eq_natCast, Int.toNat_natCast])); first | done | omega | decide | exact inR64 (by omega) (by omega) | (refine ⟨?_, ?_⟩ <;> first | omega | decide | exact inR64 (by omega) (by omega))))
  · (try cbv) <;> (repeat' (first | exact trivial | exact rfl | apply And.intro | exact fun _ => rfl | (intro _ hle; first | refine chunk_le hA rfl hle rfl ?_ | refine cat_le hA ?_ | refine upd_le hA ?_ | (try cbv))))
  cbv
  refine CS.frzA hA (by (try cbv) <;> (repeat' (first | exact trivial | exact rfl | apply And.intro | exact fun _ => rfl | (intro _ hle; first | refine chunk_le hA rfl hle rfl ?_ | refine cat_le hA ?_ | refine upd_le hA ?_ | (try cbv)))); all_goals (subst hA; (try simp only [natCast_eq] at *); (try (simp only [Ar.real, NV.val, Int.ofNat_eq_natCast, Int.toNat_natCast])); first | done | omega | decide | exact inR64 (by omega) (by omega) | (refine ⟨?_, ?_⟩ <;> first | omega | decide | exact inR64 (by omega) (by omega)))) ?_
  cbv
  refine CS.le hA (cA3) [(1, 0), (2, 1), (3, 2), (30, 3), (12047, 4)] rfl rfl rfl ?_ ?_ ?_
  · (try cbv) <;> (repeat' (first | exact trivial | exact rfl | apply And.intro | exact fun _ => rfl | (intro _ hle; first | refine chunk_le hA rfl hle rfl ?_ | refine cat_le hA ?_ | refine upd_le hA ?_ | (try cbv)))) <;> (try (subst hA; (try simp only [natCast_eq] at *); (try (simp only [Ar.real, NV.val, Int.ofNat_eq_natCast, Int.toNat_natCast])); first | done | omega | decide | exact inR64 (by omega) (by omega) | (refine ⟨?_, ?_⟩ <;> first | omega | decide | exact inR64 (by omega) (by omega)))) <;> (try first | exact (hb2 _))
  · (try cbv) <;> (repeat' (first | exact trivial | exact rfl | apply And.intro | exact fun _ => rfl | (intro _ hle; first | refine chunk_le hA rfl hle rfl ?_ | refine cat_le hA ?_ | refine upd_le hA ?_ | (try cbv)))) <;> (try first | exact (hb2 _))
  cbv
  refine CS.le hA (cC) [(1, 0), (2, 1), (3, 2)] rfl rfl rfl ?_ ?_ ?_
  · (try cbv) <;> (repeat' (first | exact trivial | exact rfl | apply And.intro | exact fun _ => rfl | (intro _ hle; first | refine chunk_le hA rfl hle rfl ?_ | refine cat_le hA ?_ | refine upd_le hA ?_ | (try cbv)))) <;> (try (subst hA; (try simp only [natCast_eq] at *); (try (simp only [Ar.real, NV.val, Int.ofNat_eq_natCast, Int.toNat_natCast])); first | done | omega | decide | exact inR64 (by omega) (by omega) | (refine ⟨?_, ?_⟩ <;> first | omega | decide | exact inR64 (by omega) (by omega))))
  · (try cbv) <;> (repeat' (first | exact trivial | exact rfl | apply And.intro | exact fun _ => rfl | (intro _ hle; first | refine chunk_le hA rfl hle rfl ?_ | refine cat_le hA ?_ | refine upd_le hA ?_ | (try cbv))))
  cbv
  refine CS.le hA (cO7) [(1, 0), (2, 1), (3, 2)] rfl rfl rfl ?_ ?_ ?_
  · (try cbv) <;> (repeat' (first | exact trivial | exact rfl | apply And.intro | exact fun _ => rfl | (intro _ hle; first | refine chunk_le hA rfl hle rfl ?_ | refine cat_le hA ?_ | refine upd_le hA ?_ | (try cbv)))) <;> (try (subst hA; (try simp only [natCast_eq] at *); (try (simp only [Ar.real, NV.val, Int.ofNat_eq_natCast, Int.toNat_natCast])); first | done | omega | decide | exact inR64 (by omega) (by omega) | (refine ⟨?_, ?_⟩ <;> first | omega | decide | exact inR64 (by omega) (by omega))))
  · (try cbv) <;> (repeat' (first | exact trivial | exact rfl | apply And.intro | exact fun _ => rfl | (intro _ hle; first | refine chunk_le hA rfl hle rfl ?_ | refine cat_le hA ?_ | refine upd_le hA ?_ | (try cbv))))
  cbv
  refine CS.ren 30 [(18158, 30), (18159, 31)] rfl rfl ?_
  cbv
  refine CS.leR hA (cN) (.ro 1 (.l 2) (fun e => [.ro 1 (.s (nl e.val)) (fun x => [.int .u8 (nf e.val x.val)])])) [(1, 0), (2, 1), (3, 2), (30, 3), (31, 4)] rfl rfl rfl ?_ ?_ ?_ ?_
  · (try cbv) <;> (repeat' (first | exact trivial | exact rfl | apply And.intro | exact fun _ => rfl | (intro _ hle; first | refine chunk_le hA rfl hle rfl ?_ | refine cat_le hA ?_ | refine upd_le hA ?_ | (try cbv)))) <;> (try (subst hA; (try simp only [natCast_eq] at *); (try (simp only [Ar.real, NV.val, Int.ofNat_eq_natCast, Int.toNat_natCast])); first | done | omega | decide | exact inR64 (by omega) (by omega) | (refine ⟨?_, ?_⟩ <;> first | omega | decide | exact inR64 (by omega) (by omega))))
  · (try cbv) <;> (repeat' (first | exact trivial | exact rfl | apply And.intro | exact fun _ => rfl | (intro _ hle; first | refine chunk_le hA rfl hle rfl ?_ | refine cat_le hA ?_ | refine upd_le hA ?_ | (try cbv)))) <;> (try (subst hA; (try simp only [natCast_eq] at *); (try (simp only [Ar.real, NV.val, Int.ofNat_eq_natCast, Int.toNat_natCast])); first | done | omega | decide | exact inR64 (by omega) (by omega) | (refine ⟨?_, ?_⟩ <;> first | omega | decide | exact inR64 (by omega) (by omega))))
  · (try cbv) <;> (repeat' (first | exact trivial | exact rfl | apply And.intro | exact fun _ => rfl | (intro _ hle; first | refine chunk_le hA rfl hle rfl ?_ | refine cat_le hA ?_ | refine upd_le hA ?_ | (try cbv))))
  cbv
  refine ⟨⟨(by (subst hA; (try simp only [natCast_eq] at *); (try (simp only [Ar.real, NV.val, Int.ofNat_eq_natCast, Int.toNat_natCast])); first | done | omega | decide | exact inR64 (by omega) (by omega) | (refine ⟨?_, ?_⟩ <;> first | omega | decide | exact inR64 (by omega) (by omega)))), (by (subst hA; (try simp only [natCast_eq] at *); (try (simp only [Ar.real, NV.val, Int.ofNat_eq_natCast, Int.toNat_natCast])); first | done | omega | decide | exact inR64 (by omega) (by omega) | (refine ⟨?_, ?_⟩ <;> first | omega | decide | exact inR64 (by omega) (by omega)))), (by (subst hA; (try simp only [natCast_eq] at *); (try (simp only [Ar.real, NV.val, Int.ofNat_eq_natCast, Int.toNat_natCast])); first | done | omega | decide | exact inR64 (by omega) (by omega) | (refine ⟨?_, ?_⟩ <;> first | omega | decide | exact inR64 (by omega) (by omega)))), (by (subst hA; (try simp only [natCast_eq] at *); (try (simp only [Ar.real, NV.val, Int.ofNat_eq_natCast, Int.toNat_natCast])); first | done | omega | decide | exact inR64 (by omega) (by omega) | (refine ⟨?_, ?_⟩ <;> first | omega | decide | exact inR64 (by omega) (by omega))))⟩, ?_⟩
  refine CS.frzA hA (by (try cbv) <;> (repeat' (first | exact trivial | exact rfl | apply And.intro | exact fun _ => rfl | (intro _ hle; first | refine chunk_le hA rfl hle rfl ?_ | refine cat_le hA ?_ | refine upd_le hA ?_ | (try cbv)))); all_goals (subst hA; (try simp only [natCast_eq] at *); (try (simp only [Ar.real, NV.val, Int.ofNat_eq_natCast, Int.toNat_natCast])); first | done | omega | decide | exact inR64 (by omega) (by omega) | (refine ⟨?_, ?_⟩ <;> first | omega | decide | exact inR64 (by omega) (by omega)))) ?_
  cbv
  refine CS.le hA (cF) [(1, 0), (2, 1), (3, 2), (30, 3), (31, 4)] rfl rfl rfl ?_ ?_ ?_
  · (try cbv) <;> (repeat' (first | exact trivial | exact rfl | apply And.intro | exact fun _ => rfl | (intro _ hle; first | refine chunk_le hA rfl hle rfl ?_ | refine cat_le hA ?_ | refine upd_le hA ?_ | (try cbv)))) <;> (try (subst hA; (try simp only [natCast_eq] at *); (try (simp only [Ar.real, NV.val, Int.ofNat_eq_natCast, Int.toNat_natCast])); first | done | omega | decide | exact inR64 (by omega) (by omega) | (refine ⟨?_, ?_⟩ <;> first | omega | decide | exact inR64 (by omega) (by omega)))) <;> (try first | exact (hz _).symm)
  · (try cbv) <;> (repeat' (first | exact trivial | exact rfl | apply And.intro | exact fun _ => rfl | (intro _ hle; first | refine chunk_le hA rfl hle rfl ?_ | refine cat_le hA ?_ | refine upd_le hA ?_ | (try cbv)))) <;> (try first | exact (hz _).symm)
  cbv
  refine CS.frzA hA (by (try cbv) <;> (repeat' (first | exact trivial | exact rfl | apply And.intro | exact fun _ => rfl | (intro _ hle; first | refine chunk_le hA rfl hle rfl ?_ | refine cat_le hA ?_ | refine upd_le hA ?_ | (try cbv)))); all_goals (subst hA; (try simp only [natCast_eq] at *); (try (simp only [Ar.real, NV.val, Int.ofNat_eq_natCast, Int.toNat_natCast])); first | done | omega | decide | exact inR64 (by omega) (by omega) | (refine ⟨?_, ?_⟩ <;> first | omega | decide | exact inR64 (by omega) (by omega)))) ?_
  cbv
  refine CS.le hA (cW) [(1, 0), (2, 1), (3, 2), (30, 3), (31, 4)] rfl rfl rfl ?_ ?_ ?_
  · (try cbv) <;> (repeat' (first | exact trivial | exact rfl | apply And.intro | exact fun _ => rfl | (intro _ hle; first | refine chunk_le hA rfl hle rfl ?_ | refine cat_le hA ?_ | refine upd_le hA ?_ | (try cbv)))) <;> (try (subst hA; (try simp only [natCast_eq] at *); (try (simp only [Ar.real, NV.val, Int.ofNat_eq_natCast, Int.toNat_natCast])); first | done | omega | decide | exact inR64 (by omega) (by omega) | (refine ⟨?_, ?_⟩ <;> first | omega | decide | exact inR64 (by omega) (by omega)))) <;> (try first | exact (hb3 _))
  · (try cbv) <;> (repeat' (first | exact trivial | exact rfl | apply And.intro | exact fun _ => rfl | (intro _ hle; first | refine chunk_le hA rfl hle rfl ?_ | refine cat_le hA ?_ | refine upd_le hA ?_ | (try cbv)))) <;> (try first | exact (hb3 _))
  cbv
  refine ⟨fun e _ => rfl, ?_⟩
  have k1 : A.eqL (A.bytes (nl (NV.l 0).val) (byteAt fun x => [SV.int IntKind.u8 (nf (NV.l 0).val x.val)])) [111, 110, 101] = true := by
    subst hA
    exact three_bytes (a := 111) (b := 110) (c := 101) hN.1 (by show nf 0 0 = _; rw [hN.2.2 0 (by omega), hb1]; rfl) (by show nf 0 1 = _; rw [hN.2.2 1 (by omega), hb1]; rfl) (by show nf 0 2 = _; rw [hN.2.2 2 (by omega), hb1]; rfl)
  have k2 : A.eq (A.i2 (nl (NV.l 1).val)) 0 = true := by subst hA; show decide (((nl 1 : Nat) : Int) = 0) = true; rw [hN.2.1]; rfl
  first | refine testR k1 rfl ?_ | refine testL k1 rfl ?_
  cbv
  first | refine testR k2 rfl ?_ | refine testL k2 rfl ?_
  cbv
  refine CS.ren 30 [(30, 30), (3050, 31)] rfl rfl ?_
  cbv
  refine CS.le hA (e1) [(1, 0), (2, 1), (3, 2), (30, 3), (31, 4)] rfl rfl rfl ?_ ?_ ?_
  · (try cbv) <;> (repeat' (first | exact trivial | exact rfl | apply And.intro | exact fun _ => rfl | (intro _ hle; first | refine chunk_le hA rfl hle rfl ?_ | refine cat_le hA ?_ | refine upd_le hA ?_ | (try cbv)))) <;> (try (subst hA; (try simp only [natCast_eq] at *); (try (simp only [Ar.real, NV.val, Int.ofNat_eq_natCast, Int.toNat_natCast])); first | done | omega | decide | exact inR64 (by omega) (by omega) | (refine ⟨?_, ?_⟩ <;> first | omega | decide | exact inR64 (by omega) (by omega))))
  · (try cbv) <;> (repeat' (first | exact trivial | exact rfl | apply And.intro | exact fun _ => rfl | (intro _ hle; first | refine chunk_le hA rfl hle rfl ?_ | refine cat_le hA ?_ | refine upd_le hA ?_ | (try cbv))))
  cbv
  have k3 : A.eqL (A.bytes 3 (byteAt fun e => [SV.int IntKind.u8 (b3 e.val)])) [110, 101, 119] = true := by
    subst hA
    exact three_bytes (a := 110) (b := 101) (c := 119) rfl (by show b3 0 = _; rw [hb3]; rfl) (by show b3 1 = _; rw [hb3]; rfl) (by show b3 2 = _; rw [hb3]; rfl)
  refine ⟨fun e _ => rfl, ?_⟩
  first | refine testR k3 rfl ?_ | refine testL k3 rfl ?_
  cbv
  refine CS.leR hA (e2) (.ro 1 (.l 0) (fun e => [.any])) [(1, 0), (2, 1), (3, 2), (30, 3), (31, 4)] rfl rfl rfl ?_ ?_ ?_ ?_
  · (try cbv) <;> (repeat' (first | exact trivial | exact rfl | apply And.intro | exact fun _ => rfl | (intro _ hle; first | refine chunk_le hA rfl hle rfl ?_ | refine cat_le hA ?_ | refine upd_le hA ?_ | (try cbv)))) <;> (try (subst hA; (try simp only [natCast_eq] at *); (try (simp only [Ar.real, NV.val, Int.ofNat_eq_natCast, Int.toNat_natCast])); first | done | omega | decide | exact inR64 (by omega) (by omega) | (refine ⟨?_, ?_⟩ <;> first | omega | decide | exact inR64 (by omega) (by omega))))
  · (try cbv) <;> (repeat' (first | exact trivial | exact rfl | apply And.intro | exact fun _ => rfl | (intro _ hle; first | refine chunk_le hA rfl hle rfl ?_ | refine cat_le hA ?_ | refine upd_le hA ?_ | (try cbv)))) <;> (try (subst hA; (try simp only [natCast_eq] at *); (try (simp only [Ar.real, NV.val, Int.ofNat_eq_natCast, Int.toNat_natCast])); first | done | omega | decide | exact inR64 (by omega) (by omega) | (refine ⟨?_, ?_⟩ <;> first | omega | decide | exact inR64 (by omega) (by omega))))
  · (try cbv) <;> (repeat' (first | exact trivial | exact rfl | apply And.intro | exact fun _ => rfl | (intro _ hle; first | refine chunk_le hA rfl hle rfl ?_ | refine cat_le hA ?_ | refine upd_le hA ?_ | (try cbv))))
  cbv
  refine CS.leR hA (e3) (.lit .i64 2) [(1, 0), (2, 1), (3, 2), (30, 3), (31, 4)] rfl rfl rfl ?_ ?_ ?_ ?_
  · (try cbv) <;> (repeat' (first | exact trivial | exact rfl | apply And.intro | exact fun _ => rfl | (intro _ hle; first | refine chunk_le hA rfl hle rfl ?_ | refine cat_le hA ?_ | refine upd_le hA ?_ | (try cbv)))) <;> (try (subst hA; (try simp only [natCast_eq] at *); (try (simp only [Ar.real, NV.val, Int.ofNat_eq_natCast, Int.toNat_natCast])); first | done | omega | decide | exact inR64 (by omega) (by omega) | (refine ⟨?_, ?_⟩ <;> first | omega | decide | exact inR64 (by omega) (by omega))))
  · (try cbv) <;> (repeat' (first | exact trivial | exact rfl | apply And.intro | exact fun _ => rfl | (intro _ hle; first | refine chunk_le hA rfl hle rfl ?_ | refine cat_le hA ?_ | refine upd_le hA ?_ | (try cbv)))) <;> (try (subst hA; (try simp only [natCast_eq] at *); (try (simp only [Ar.real, NV.val, Int.ofNat_eq_natCast, Int.toNat_natCast])); first | done | omega | decide | exact inR64 (by omega) (by omega) | (refine ⟨?_, ?_⟩ <;> first | omega | decide | exact inR64 (by omega) (by omega))))
  · (try cbv) <;> (repeat' (first | exact trivial | exact rfl | apply And.intro | exact fun _ => rfl | (intro _ hle; first | refine chunk_le hA rfl hle rfl ?_ | refine cat_le hA ?_ | refine upd_le hA ?_ | (try cbv))))
  cbv
  refine CS.leR hA (e4) (.lit .i64 3) [(1, 0), (2, 1), (3, 2), (30, 3), (31, 4)] rfl rfl rfl ?_ ?_ ?_ ?_
  · (try cbv) <;> (repeat' (first | exact trivial | exact rfl | apply And.intro | exact fun _ => rfl | (intro _ hle; first | refine chunk_le hA rfl hle rfl ?_ | refine cat_le hA ?_ | refine upd_le hA ?_ | (try cbv)))) <;> (try (subst hA; (try simp only [natCast_eq] at *); (try (simp only [Ar.real, NV.val, Int.ofNat_eq_natCast, Int.toNat_natCast])); first | done | omega | decide | exact inR64 (by omega) (by omega) | (refine ⟨?_, ?_⟩ <;> first | omega | decide | exact inR64 (by omega) (by omega))))
  · (try cbv) <;> (repeat' (first | exact trivial | exact rfl | apply And.intro | exact fun _ => rfl | (intro _ hle; first | refine chunk_le hA rfl hle rfl ?_ | refine cat_le hA ?_ | refine upd_le hA ?_ | (try cbv)))) <;> (try (subst hA; (try simp only [natCast_eq] at *); (try (simp only [Ar.real, NV.val, Int.ofNat_eq_natCast, Int.toNat_natCast])); first | done | omega | decide | exact inR64 (by omega) (by omega) | (refine ⟨?_, ?_⟩ <;> first | omega | decide | exact inR64 (by omega) (by omega))))
  · (try cbv) <;> (repeat' (first | exact trivial | exact rfl | apply And.intro | exact fun _ => rfl | (intro _ hle; first | refine chunk_le hA rfl hle rfl ?_ | refine cat_le hA ?_ | refine upd_le hA ?_ | (try cbv))))
  cbv
  refine CS.leR hA (e5) (.lit .i64 0) [(1, 0), (2, 1), (3, 2), (30, 3), (31, 4)] rfl rfl rfl ?_ ?_ ?_ ?_
  · (try cbv) <;> (repeat' (first | exact trivial | exact rfl | apply And.intro | exact fun _ => rfl | (intro _ hle; first | refine chunk_le hA rfl hle rfl ?_ | refine cat_le hA ?_ | refine upd_le hA ?_ | (try cbv)))) <;> (try (subst hA; (try simp only [natCast_eq] at *); (try (simp only [Ar.real, NV.val, Int.ofNat_eq_natCast, Int.toNat_natCast])); first | done | omega | decide | exact inR64 (by omega) (by omega) | (refine ⟨?_, ?_⟩ <;> first | omega | decide | exact inR64 (by omega) (by omega))))
  · (try cbv) <;> (repeat' (first | exact trivial | exact rfl | apply And.intro | exact fun _ => rfl | (intro _ hle; first | refine chunk_le hA rfl hle rfl ?_ | refine cat_le hA ?_ | refine upd_le hA ?_ | (try cbv)))) <;> (try (subst hA; (try simp only [natCast_eq] at *); (try (simp only [Ar.real, NV.val, Int.ofNat_eq_natCast, Int.toNat_natCast])); first | done | omega | decide | exact inR64 (by omega) (by omega) | (refine ⟨?_, ?_⟩ <;> first | omega | decide | exact inR64 (by omega) (by omega))))
  · (try cbv) <;> (repeat' (first | exact trivial | exact rfl | apply And.intro | exact fun _ => rfl | (intro _ hle; first | refine chunk_le hA rfl hle rfl ?_ | refine cat_le hA ?_ | refine upd_le hA ?_ | (try cbv))))
  cbv
  refine CS.leR hA (e6) (.bl true) [(1, 0), (2, 1), (3, 2), (30, 3), (31, 4)] rfl rfl rfl ?_ ?_ ?_ ?_
  · (try cbv) <;> (repeat' (first | exact trivial | exact rfl | apply And.intro | exact fun _ => rfl | (intro _ hle; first | refine chunk_le hA rfl hle rfl ?_ | refine cat_le hA ?_ | refine upd_le hA ?_ | (try cbv)))) <;> (try (subst hA; (try simp only [natCast_eq] at *); (try (simp only [Ar.real, NV.val, Int.ofNat_eq_natCast, Int.toNat_natCast])); first | done | omega | decide | exact inR64 (by omega) (by omega) | (refine ⟨?_, ?_⟩ <;> first | omega | decide | exact inR64 (by omega) (by omega))))
  · (try cbv) <;> (repeat' (first | exact trivial | exact rfl | apply And.intro | exact fun _ => rfl | (intro _ hle; first | refine chunk_le hA rfl hle rfl ?_ | refine cat_le hA ?_ | refine upd_le hA ?_ | (try cbv)))) <;> (try (subst hA; (try simp only [natCast_eq] at *); (try (simp only [Ar.real, NV.val, Int.ofNat_eq_natCast, Int.toNat_natCast])); first | done | omega | decide | exact inR64 (by omega) (by omega) | (refine ⟨?_, ?_⟩ <;> first | omega | decide | exact inR64 (by omega) (by omega))))
  · (try cbv) <;> (repeat' (first | exact trivial | exact rfl | apply And.intro | exact fun _ => rfl | (intro _ hle; first | refine chunk_le hA rfl hle rfl ?_ | refine cat_le hA ?_ | refine upd_le hA ?_ | (try cbv))))
  cbv
  refine CS.leR hA (e7) (.lit .i64 7) [] rfl rfl rfl ?_ ?_ ?_ ?_
  · (try cbv) <;> (repeat' (first | exact trivial | exact rfl | apply And.intro | exact fun _ => rfl | (intro _ hle; first | refine chunk_le hA rfl hle rfl ?_ | refine cat_le hA ?_ | refine upd_le hA ?_ | (try cbv)))) <;> (try (subst hA; (try simp only [natCast_eq] at *); (try (simp only [Ar.real, NV.val, Int.ofNat_eq_natCast, Int.toNat_natCast])); first | done | omega | decide | exact inR64 (by omega) (by omega) | (refine ⟨?_, ?_⟩ <;> first | omega | decide | exact inR64 (by omega) (by omega))))
  · (try cbv) <;> (repeat' (first | exact trivial | exact rfl | apply And.intro | exact fun _ => rfl | (intro _ hle; first | refine chunk_le hA rfl hle rfl ?_ | refine cat_le hA ?_ | refine upd_le hA ?_ | (try cbv)))) <;> (try (subst hA; (try simp only [natCast_eq] at *); (try (simp only [Ar.real, NV.val, Int.ofNat_eq_natCast, Int.toNat_natCast])); first | done | omega | decide | exact inR64 (by omega) (by omega) | (refine ⟨?_, ?_⟩ <;> first | omega | decide | exact inR64 (by omega) (by omega))))
  · (try cbv) <;> (repeat' (first | exact trivial | exact rfl | apply And.intro | exact fun _ => rfl | (intro _ hle; first | refine chunk_le hA rfl hle rfl ?_ | refine cat_le hA ?_ | refine upd_le hA ?_ | (try cbv))))
  cbv
  refine Fin.le hA 0 [] (.bl true) ([]) 1000 rfl rfl rfl ?_ ?_ (by rw [← hK]; exact ⟨rfl, rfl, rfl⟩)
  · (try cbv) <;> (repeat' (first | exact trivial | exact rfl | apply And.intro | exact fun _ => rfl | (intro _ hle; first | refine chunk_le hA rfl hle rfl ?_ | refine cat_le hA ?_ | refine upd_le hA ?_ | (try cbv))))
  · (try cbv) <;> (repeat' (first | exact trivial | exact rfl | apply And.intro | exact fun _ => rfl | (intro _ hle; first | refine chunk_le hA rfl hle rfl ?_ | refine cat_le hA ?_ | refine upd_le hA ?_ | (try cbv))))
end Go.Proofs.YtnjjgipblimbfaaDoor.Dsk
namespace Go.Proofs.YtnjjgipblimbfaaDoor.Dsk
open Go.Eng
open Go.DskLaw (q64 secV isB needN pcs getP)
open Go.WalLaw
open Go.CrcLaw (four)
set_option maxRecDepth 100000
set_option maxHeartbeats 4000000
/-- An act. -/
structure OpW where
  d : Int
  a : Int
  bn : Nat
  b : Nat → Int
  kn : Nat
  ks : Nat → Int
  kb : Nat → Int
abbrev opW (o : OpW) : List SV := [.int .i64 o.d, .int .i64 o.a, .ro 1 (.s o.bn) (fun x => [.int .u8 (o.b x.val)]), .ro 2 (.s o.kn) (fun x => [.int .i64 (o.ks x.val), .int .i64 (o.kb x.val)])]
abbrev OpsW (n : Nat) (l : Nat → OpW) : SV := .ro 4 (.s n) (fun e => opW (l e.val))
def LightW (n : Nat) (l : Nat → OpW) : Prop := n ≤ 40 ∧ ∀ i, i < n → (l i).bn ≤ 400 ∧ (l i).kn ≤ 60
end Go.Proofs.YtnjjgipblimbfaaDoor.Dsk
namespace Go.Proofs.YtnjjgipblimbfaaDoor.Dsk
open Go.Eng
open Go.DskLaw (q64 secV isB needN pcs getP)
open Go.WalLaw
open Go.CrcLaw (four)
set_option maxRecDepth 100000
set_option maxHeartbeats 1000000
/-- What may be left: so many notes for sure; within a switch, or the new base. -/
def Post (s h : Nat) (d : Dk) (wi : Bool) (su c bn : Nat) (b : Nat → Int) (ml : Nat → Nat) (mf : Nat → Nat → Int) (on : Nat) (of : Nat → Int) : Prop :=
  DkOk s d ∧ ∀ (ks kb : Nat → Int) (n : Nat), (∃ g fi en K, Reg s h g fi en ∧ 0 < g ∧ su + 1 ≤ K ∧ K ≤ c + 1 ∧ ImgD (crashD d ks kb n) g fi en K (cons0 bn ml) (cons0 b mf)) ∨
    (wi = true ∧ ∃ g fi en, Reg s h g fi en ∧ 0 < g ∧ ImgD (crashD d ks kb n) g fi en 1 (fun _ => on) (fun _ => of))
section
variable {P : Program} {fr : Nat → Int} {N s h g fi en K su c n bn on : Nat} {d d1 : Dk} {ml ml' : Nat → Nat} {mf mf' : Nat → Nat → Int} {f b of : Nat → Int} {wi : Bool}
end
end Go.Proofs.YtnjjgipblimbfaaDoor.Dsk
namespace Go.WalLaw
open Go.DskLaw
open Go.CrcLaw (turn)
theorem turn_in {g : Nat → BitVec 32} {x : BitVec 32} {m k : Nat} : ∀ (i j : Nat), turn g x (8 * m + k) i (m + j) = turn (fun j => g (m + j)) x k i j := by
  intro i
  induction i with
  | zero => intro j; rfl
  | succ i ih =>
    intro j
    simp only [turn]
    rw [ih j, show 8 * m + k + i = 8 * m + (k + i) by omega, show (8 * m + (k + i)) / 8 = m + (k + i) / 8 by omega, show (8 * m + (k + i)) % 8 = (k + i) % 8 by omega]
    by_cases q : j = (k + i) / 8
    · rw [if_pos q, if_pos (by omega)]
    · rw [if_neg q, if_neg (by omega)]
theorem turn_out {g : Nat → BitVec 32} {x : BitVec 32} {m k len j : Nat} (hk : k + 32 ≤ 8 * len) (hj : j < m ∨ m + len ≤ j) : ∀ (i : Nat), i ≤ 32 → turn g x (8 * m + k) i j = g j := by
  intro i
  induction i with
  | zero => intro _; rfl
  | succ i ih =>
    intro hi
    simp only [turn]
    rw [ih (by omega), if_neg (by omega)]
    cases x.getLsbD i <;> rfl
theorem turn_congr {g g' : Nat → BitVec 32} {x : BitVec 32} {k j : Nat} (h : g j = g' j) : ∀ (i : Nat), turn g x k i j = turn g' x k i j := by
  intro i
  induction i with
  | zero => exact h
  | succ i ih =>
    simp only [turn]
    rw [ih]
theorem pcs_congr {n j y : Nat} {f f' : Nat → Int} (h : y < 62 → 62 * j + y < n → f (62 * j + y) = f' (62 * j + y)) : pcs n f j y = pcs n f' j y := by
  unfold pcs
  by_cases q : y < 62
  · rw [if_pos q, if_pos q]
    by_cases q2 : 62 * j + y < n
    · rw [if_pos q2, if_pos q2, h q q2]
    · rw [if_neg q2, if_neg q2]
  · rw [if_neg q, if_neg q]
theorem sealF_of {n : Nat} {f : Nat → Int} {g : Nat → BitVec 32} (hg : ∀ i, f i = ((g i).toNat : Int)) (i : Nat) : sealF n f i = CrcLaw.sealB f (CrcLaw.more g 0#32 n) n i := by
  have e1 : CrcLaw.more (bvF n f) 0#32 n = CrcLaw.more g 0#32 n := more_congr (fun j hj => by
    unfold bvF cutF
    rw [if_pos hj, hg j, BitVec.ofInt_natCast, BitVec.ofNat_toNat, BitVec.setWidth_eq])
  unfold sealF
  rw [e1]
  unfold CrcLaw.sealB
  by_cases q : i < n
  · rw [if_pos q, if_pos q]; unfold cutF; rw [if_pos q]
  · rw [if_neg q, if_neg q]
/-- A piece of which bits were turned: the record is there, and is not right. -/
theorem damage {V : Nat → Nat → Int} {fin n st j0 k : Nat} {b : Nat → Int} {s : Nat → BitVec 32} {x : BitVec 32} (hb : ∀ i, i < n → 0 ≤ b i ∧ b i ≤ 255) (hn : n + 4 ≤ 65536) (hj0 : j0 < needN (n + 4)) (hfin : st + needN (n + 4) ≤ fin) (hx : x ≠ 0#32)
    (hk : k + 32 ≤ 8 * min (n + 4 - 62 * j0) 62) (hs : ∀ y, y < 64 → pcs (n + 4) (sealF n b) j0 y = ((s y).toNat : Int)) (hV : ∀ j, j < needN (n + 4) → j ≠ j0 → ∀ y, y < 64 → V (st + j) y = pcs (n + 4) (sealF n b) j y)
    (hV0 : ∀ y, y < 64 → V (st + j0) y = ((turn s x k 32 y).toNat : Int)) : ∃ f, getP V st fin (fin - st) st 0 (fun _ => 0) = some (n + 4, f, st + needN (n + 4)) ∧ ¬ OpenOk (n + 4) f := by
  obtain ⟨g, hg⟩ : ∃ g : Nat → BitVec 32, ∀ i, sealF n b i = ((g i).toNat : Int) := ⟨fun i => BitVec.ofNat 32 (sealF n b i).toNat, fun i => by have := sealF_range hb i; rw [BitVec.toNat_ofNat]; omega⟩
  obtain ⟨r, hr⟩ : ∃ r : Nat → Int, ∀ i, r i = ((turn g x (8 * (62 * j0) + k) 32 i).toNat : Int) := ⟨_, fun _ => rfl⟩
  have hout : ∀ y, (y < 62 * j0 ∨ 62 * j0 + min (n + 4 - 62 * j0) 62 ≤ y) → r y = sealF n b y := fun y hy => by rw [hr, turn_out hk hy 32 (Nat.le_refl _), hg]
  have hV' : ∀ j, j < needN (n + 4) → ∀ y, y < 64 → V (st + j) y = pcs (n + 4) r j y := by
    intro j hj y hy
    by_cases q : j = j0
    · subst q
      rw [hV0 y hy]
      by_cases q2 : y < 62 ∧ 62 * j + y < n + 4
      · have e : s y = g (62 * j + y) := by
          have := hs y hy
          rw [pcs_lt q2.1, if_pos q2.2, hg] at this
          exact BitVec.eq_of_toNat_eq (by exact_mod_cast this.symm)
        rw [pcs_lt q2.1, if_pos q2.2, hr, turn_in, turn_congr (g := s) (g' := fun i => g (62 * j + i)) e]
      · have e : turn s x k 32 y = s y := by
          have := turn_out (g := s) (x := x) (m := 0) (k := k) (len := min (n + 4 - 62 * j) 62) (j := y) hk (.inr (by omega)) 32 (Nat.le_refl _)
          rw [show 8 * 0 + k = k by omega] at this
          exact this
        rw [e, ← hs y hy]
        exact pcs_congr fun h1 h2 => absurd ⟨h1, h2⟩ q2
    · rw [hV j hj q y hy]
      exact pcs_congr fun h1 h2 => (hout _ (by omega)).symm
  obtain ⟨f', h1, h2⟩ := getP_whole (V := V) (first := st) (fin := fin) (n := n + 4) (r := r) hfin hn hV' (needN (n + 4) - 1) 0 (fun _ => 0) (by have := need1 (n + 4); omega) (fun j hj _ => by omega)
  refine ⟨f', h1, fun ho => ?_⟩
  have hb1 : ∀ j, j < 4 → g (n + j) = CrcLaw.byteOf (CrcLaw.more g 0#32 n) j := (CrcLaw.sealed_bytes hg _).1 fun i hi => by
    rw [← sealF_of hg]
    have := (openOk_seal (n := n) (b := b) (f := sealF n b) (fun i _ => rfl)).2 i hi
    rw [show n + 4 - 4 = n by omega] at this
    exact this
  refine CrcLaw.turned g x (8 * (62 * j0) + k) n hx (by omega) hb1 ((CrcLaw.sealed_bytes hr _).1 fun i hi => ?_)
  rw [← sealF_of hr]
  have e := ho.2 i hi
  rw [show n + 4 - 4 = n by omega, h2 i hi] at e
  rw [← e]
  have hc : ∀ i, i < n → f' i = r i := fun i hi => h2 i (by omega)
  have e1 : CrcLaw.more (bvF n f') 0#32 n = CrcLaw.more (bvF n r) 0#32 n := more_congr (fun j hj => by
    unfold bvF cutF
    rw [if_pos hj, if_pos hj, hc j hj])
  unfold sealF
  rw [e1]
  unfold CrcLaw.sealB
  by_cases q : i < n
  · rw [if_pos q, if_pos q]; unfold cutF; rw [if_pos q, if_pos q, hc i q]
  · rw [if_neg q, if_neg q]

/-- Records, and then a stop. -/
theorem recP_upto {V : Nat → Nat → Int} {fi en K : Nat} {nl : Nat → Nat} {nf : Nat → Nat → Int} (hen : stN fi nl K ≤ en) (hl : ∀ i, i < K → nl i + 4 ≤ 65536) (hV : RecsV V fi nl nf K)
    (hstop : ∀ k g, recP V en (k + 1) (stN fi nl K) K g = (K, g, stN fi nl K)) :
    ∀ (k i : Nat) (g : Nat → Nat × (Nat → Int)), i ≤ K → K - i < k → Same i g nl nf → ∃ gs, recP V en k (stN fi nl i) i g = (K, gs, stN fi nl K) ∧ Same K gs nl nf := by
  intro k
  induction k with
  | zero => intro i g _ h; omega
  | succ k ih =>
    intro i g hi hk hg
    by_cases q : i = K
    · subst q
      exact ⟨g, hstop k g, hg⟩
    · have hiK : i < K := by omega
      have hle : stN fi nl (i + 1) ≤ en := Nat.le_trans (stN_mono (by omega)) hen
      rw [stN_succ] at hle
      obtain ⟨f', h1, h2⟩ := getP_whole (V := V) (first := stN fi nl i) (fin := en) (n := nl i + 4) (r := sealF (nl i) (nf i)) hle (hl i hiK) (hV i hiK) (needN (nl i + 4) - 1) 0 (fun _ => 0) (by have := need1 (nl i + 4); omega) (fun j hj _ => by omega)
      have h1 : getP V (stN fi nl i) en (en - stN fi nl i) (stN fi nl i) 0 (fun _ => 0) = some (nl i + 4, f', stN fi nl i + needN (nl i + 4)) := h1
      rw [recP_some h1 (openOk_seal h2)]
      refine ih (i + 1) _ (by omega) (by omega) ?_
      intro j hj
      by_cases q2 : j < i
      · simp only [if_pos q2]; exact hg j q2
      · obtain rfl : j = i := by omega
        simp only [if_neg q2]
        exact ⟨by omega, fun x hx => by rw [h2 x (by omega), sealF_front hx]⟩
/-- In which record a sector is. -/
theorem stN_find {fi : Nat} {nl : Nat → Nat} : ∀ (K t : Nat), fi ≤ t → t < stN fi nl K → ∃ i j, i < K ∧ j < needN (nl i + 4) ∧ t = stN fi nl i + j := by
  intro K
  induction K with
  | zero => intro t h1 h2; exact absurd h2 (by show ¬ t < fi; omega)
  | succ K ih =>
    intro t h1 h2
    rcases Nat.lt_or_ge t (stN fi nl K) with q | q
    · obtain ⟨i, j, a, b, e⟩ := ih t h1 q
      exact ⟨i, j, by omega, b, e⟩
    · rw [stN_succ] at h2
      exact ⟨K, t - stN fi nl K, by omega, by omega, by omega⟩
/-- WHAT IS FOUND of a log of which a piece was turned: the records before it. -/
theorem damaged {V : Nat → Nat → Int} {fi en c i0 j0 k : Nat} {nl : Nat → Nat} {nf : Nat → Nat → Int} {s : Nat → BitVec 32} {x : BitVec 32} (hen : stN fi nl c ≤ en) (hl : ∀ i, i < c → nl i + 4 ≤ 65536) (hb : ∀ i, i < c → ∀ x, x < nl i → 0 ≤ nf i x ∧ nf i x ≤ 255) (hi0 : i0 < c) (hj0 : j0 < needN (nl i0 + 4)) (hx : x ≠ 0#32)
    (hk : k + 32 ≤ 8 * min (nl i0 + 4 - 62 * j0) 62) (hs : ∀ y, y < 64 → recB nl nf i0 j0 y = ((s y).toNat : Int))
    (hV : ∀ i, i < c → ∀ j, j < needN (nl i + 4) → stN fi nl i + j ≠ stN fi nl i0 + j0 → ∀ y, y < 64 → V (stN fi nl i + j) y = recB nl nf i j y) (hV0 : ∀ y, y < 64 → V (stN fi nl i0 + j0) y = ((turn s x k 32 y).toNat : Int)) (g0 : Nat → Nat × (Nat → Int)) :
    ∃ gs, recP V en (en - fi + 1) fi 0 g0 = (i0, gs, stN fi nl i0) ∧ Same i0 gs nl nf := by
  have hm : stN fi nl (i0 + 1) ≤ stN fi nl c := stN_mono (by omega)
  rw [stN_succ] at hm
  have hst : fi + i0 ≤ stN fi nl i0 := le_atN fi (fun i => nl i + 4) i0
  obtain ⟨f, h1, h2⟩ := damage (V := V) (fin := en) (st := stN fi nl i0) (b := nf i0) (n := nl i0) (hb i0 hi0) (hl i0 hi0) hj0 (by omega) hx hk hs (fun j hj hne y hy => hV i0 hi0 j hj (by omega) y hy) hV0
  refine recP_upto (nl := nl) (nf := nf) (K := i0) (by omega) (fun i hi => hl i (by omega)) (fun i hi j hj y hy => ?_) (fun k g => recP_bad h1 h2) (en - fi + 1) 0 g0 (by omega) (by omega) (fun j hj => by omega)
  have h3 : stN fi nl (i + 1) ≤ stN fi nl i0 := stN_mono (by omega)
  rw [stN_succ] at h3
  exact hV i (by omega) j hj (by show stN fi nl i + j ≠ _; omega) y hy
end Go.WalLaw
namespace Go.Proofs.YtnjjgipblimbfaaDoor.Dsk
open Go.Eng
open Go.DskLaw (q64 secV isB needN pcs getP)
open Go.WalLaw
open Go.CrcLaw (four turn)
set_option maxRecDepth 100000
set_option maxHeartbeats 1000000
section
variable {P : Program} {fr : Nat → Int} {c i0 j0 k t : Nat} {d d2 : Dk} {ml : Nat → Nat} {mf : Nat → Nat → Int} {bb v : Nat → Int} {s : Nat → BitVec 32} {x : BitVec 32}
theorem damage_open (hP : P = Tryd.prog) (hfr : ∀ i, fr i = ((four i).toNat : Int)) (st : LgSt 60 29 d 1 31 60 c c 4 bb ml mf) (hL : ∀ k, d.L k = none) (har : d.ar = false) (hbb : ∀ i, 0 ≤ bb i ∧ bb i ≤ 255) (hmr : ∀ j, j < c → ∀ x, x < ml j → 0 ≤ mf j x ∧ mf j x ≤ 255)
    (ht : t = stN 31 (cons0 4 ml) i0 + j0) (hi0 : i0 < c + 1) (hj0 : j0 < needN (cons0 4 ml i0 + 4)) (hx : x ≠ 0#32) (hs : ∀ y, y < 64 → d.S (64 * t + y) = ((s y).toNat : Int)) (hk : k + 32 ≤ 8 * min (cons0 4 ml i0 + 4 - 62 * j0) 62) (hv : ∀ y, y < 64 → v y = ((turn s x k 32 y).toNat : Int)) (hd2 : d2 = flushD (writeD d t v)) :
    DkOk 60 (writeD d t v) ∧ DkOk 60 d2 ∧ ((i0 = 0 ∧ FnTr P (Gf fr) 32 [.ptr 0 0] (DHd 3840 d2) 3 (Gives (.tup [.nilp, .lit .i64 270]) (DHd 3840 d2) 3)) ∨
      ∃ d3 gs last, 0 < i0 ∧ Same i0 gs (cons0 4 ml) (cons0 bb mf) ∧ FnTr P (Gf fr) 32 [.ptr 0 0] (DHd 3840 d2) 3 (Gives (.tup [.ptr 3 0, .lit .i64 0]) (OpH 3840 d3 1 last i0 gs) 100)) := by
  have log := st.log
  have ht2 : t < 60 := by
    have h1 : stN 31 (cons0 4 ml) (i0 + 1) ≤ stN 31 (cons0 4 ml) (c + 1) := stN_mono (by omega)
    have h2 := log.hen
    rw [stN_succ] at h1
    omega
  have ht3 : 31 ≤ t := by
    have h1 : stN 31 (cons0 4 ml) 0 ≤ stN 31 (cons0 4 ml) i0 := stN_mono (by omega)
    have h2 : stN 31 (cons0 4 ml) 0 = 31 := rfl
    omega
  have hb0 : ∀ i, i < c + 1 → ∀ x, x < cons0 4 ml i → 0 ≤ cons0 bb mf i x ∧ cons0 bb mf i x ≤ 255 := fun i hi x hx => by
    cases i with
    | zero => exact hbb x
    | succ i => exact hmr i (by omega) x hx
  have hS : ∀ i, i < c + 1 → ∀ j, j < needN (cons0 4 ml i + 4) → ∀ y, y < 64 → d.S (64 * (stN 31 (cons0 4 ml) i + j) + y) = recB (cons0 4 ml) (cons0 bb mf) i j y := fun i hi j hj y hy => log.recs i hi j hj y hy
  have hs8 : ∀ y, y < 64 → (s y).toNat < 256 := fun y hy => by
    have h1 := (st.ok.sb (64 * t + y) (by omega))
    rw [hs y hy] at h1
    omega
  have hlt : ∀ y, y < 64 → (turn s x k 32 y).toNat < 256 := fun y hy => by
    have h1 := CrcLaw.turn_lt (g := fun j => if j < 64 then s j else 0#32) (x := x) (k := k) (fun j => by
      show (if j < 64 then s j else 0#32).toNat < 256
      by_cases q : j < 64
      · rw [if_pos q]; exact hs8 j q
      · rw [if_neg q]; decide) 32 y
    rw [turn_congr (g := s) (g' := fun j => if j < 64 then s j else 0#32) (by show s y = if y < 64 then s y else _; rw [if_pos hy])]
    exact h1
  have ho : ¬ offD d := fun q => by have := q.1; rw [har] at this; cases this
  have hvr : ∀ y, y < 64 → 0 ≤ v y ∧ v y ≤ 255 := fun y hy => by have := hlt y hy; rw [hv y hy]; omega
  have ok1 : DkOk 60 (writeD d t v) := st.ok.write ho ht2 hvr
  have ho1 : ¬ offD (writeD d t v) := fun q => by have q1 : d.ar = true := q.1; rw [har] at q1; cases q1
  have ok2 : DkOk 60 d2 := by rw [hd2]; exact ok1.flush ho1
  have ar2 : d2.ar = false := by rw [hd2]; exact har
  have ho2 : ¬ offD d2 := fun q => by have := q.1; rw [ar2] at this; cases this
  have hL2 : ∀ k, d2.L k = none := fun k => by rw [hd2]; rfl
  have hV : ∀ t' y, y < 64 → secV d2.S d2.L t' y = if t' = t then v y else d.S (64 * t' + y) := fun t' y hy => by
    rw [secV_eq hL2, hd2, flushD_S _ _ _ hy]
    by_cases q : t' = t
    · rw [if_pos q]
      refine congrFun (DskLaw.secV_some' (g := v) ?_) y
      show (if ((t' : Nat) : Int) = (t : Int) then some v else d.L t') = some v
      rw [if_pos (by rw [q])]
    · rw [if_neg q]
      refine DskLaw.secV_none' ?_ y
      show (if ((t' : Nat) : Int) = (t : Int) then some v else d.L t') = none
      rw [if_neg (by omega), hL]
  refine ⟨ok1, ok2, ?_⟩
  obtain ⟨g0, g1, e0, e1, eg⟩ := st.hd.gens (by omega)
  have e0' : GenIs (secV d2.S d2.L 0) 0 g0 := genIs_congr (fun y hy => by rw [hV 0 y hy, if_neg (by omega)]; exact secV_eq hL 0 y) e0
  have e1' : GenIs (secV d2.S d2.L 1) 1 g1 := genIs_congr (fun y hy => by rw [hV 1 y hy, if_neg (by omega)]; exact secV_eq hL 1 y) e1
  obtain ⟨gs, hR0, hsame⟩ := damaged (V := fun t => secV d2.S d2.L t) (fi := 31) (en := 60) (c := c + 1) (i0 := i0) (j0 := j0) (k := k) (nl := cons0 4 ml) (nf := cons0 bb mf) (s := s) (x := x) log.hen log.hlen hb0 hi0 hj0 hx hk
    (fun y hy => by rw [← hs y hy, ht]; exact (hS i0 hi0 j0 hj0 y hy).symm)
    (fun i hi j hj hne y hy => by
      show secV d2.S d2.L _ y = _
      rw [hV _ y hy, if_neg (by rw [ht]; exact hne)]
      exact hS i hi j hj y hy)
    (fun y hy => by
      show secV d2.S d2.L _ y = _
      rw [hV _ y hy, if_pos ht.symm]
      exact hv y hy) (fun _ => (0, fun _ => 0))
  rcases Nat.eq_zero_or_pos i0 with hz | hz
  · subst hz
    exact .inl ⟨rfl, open_log (s := 60) hP rfl (by omega) (by omega) rfl (newest_at hP rfl (by omega) ok2 ho2 e0' e1' eg) (records_at hP hfr rfl st.reg ok2 ho2 hR0)⟩
  · right
    have hm : stN 31 (cons0 4 ml) i0 ≤ stN 31 (cons0 4 ml) (c + 1) := stN_mono (by omega)
    have hsm := st.small
    obtain ⟨on, d1, hw, okw, hc⟩ := open_read hP hfr (N := 3840) rfl st.reg (by omega) ok2 ho2 e0' e1' eg (K := i0) hz (Nat.le_trans hm log.hen) (by omega) hR0
    have arw := (wipeD_S hw).2
    rcases hc with ⟨e, _⟩ | ⟨m, e, hm, o1, _⟩ | ⟨m, d3, e, _, _, cc⟩
    · obtain ⟨m', d', h'⟩ := wipeD_run (a := stN 31 (cons0 4 ml) i0) (b := 60) ar2
      rw [hw, e] at h'
      cases h'
    · have := o1.1
      rw [arw, ar2] at this
      cases this
    · exact ⟨d3, gs, _, hz, hsame, cc⟩
/-- The same, with what the law reads of the log that is opened. -/
theorem damage_more (hP : P = Tryd.prog) (hfr : ∀ i, fr i = ((four i).toNat : Int)) (st : LgSt 60 29 d 1 31 60 c c 4 bb ml mf) (hL : ∀ k, d.L k = none) (har : d.ar = false) (hbb : ∀ i, 0 ≤ bb i ∧ bb i ≤ 255) (hmr : ∀ j, j < c → ∀ x, x < ml j → 0 ≤ mf j x ∧ mf j x ≤ 255) (hms : ∀ j, j < c → ml j ≤ 200)
    (ht : t = stN 31 (cons0 4 ml) i0 + j0) (hi0 : i0 < c + 1) (hj0 : j0 < needN (cons0 4 ml i0 + 4)) (hx : x ≠ 0#32) (hs : ∀ y, y < 64 → d.S (64 * t + y) = ((s y).toNat : Int)) (hk : k + 32 ≤ 8 * min (cons0 4 ml i0 + 4 - 62 * j0) 62) (hv : ∀ y, y < 64 → v y = ((turn s x k 32 y).toNat : Int)) (hd2 : d2 = flushD (writeD d t v)) :
    DkOk 60 (writeD d t v) ∧ DkOk 60 d2 ∧ ((i0 = 0 ∧ FnTr P (Gf fr) 32 [.ptr 0 0] (DHd 3840 d2) 3 (Gives (.tup [.nilp, .lit .i64 270]) (DHd 3840 d2) 3)) ∨
      ∃ (d3 : Dk) (last kc w0 : Nat) (wf : Nat → Int) (gl nl : Nat → Nat) (gf nf : Nat → Nat → Int), i0 = kc + 1 ∧ w0 = 4 ∧ (∀ x, x < 4 → wf x = bb x) ∧ (∀ j, j < kc → nl j = ml j ∧ ∀ y, y < nl j → nf j y = mf j y) ∧ kc ≤ 4096 ∧
        FnTr P (Gf fr) 32 [.ptr 0 0] (DHd 3840 d2) 3 (Gives (.tup [.ptr 3 0, .lit .i64 0]) (LgH 3840 d3 1 last w0 wf (.s 1) kc kc false (kc + 1) gl gf) 100) ∧
        FnTr P (Gf fr) 33 [.ptr 3 0] (LgH 3840 d3 1 last w0 wf (.s 1) kc kc false (kc + 1) gl gf) 5 (Gives (By w0 wf) (LgH 3840 d3 1 last w0 wf (.s 1) kc kc false (kc + 1) gl gf) 100) ∧
        FnTr P (Gf fr) 35 [.ptr 3 0] (LgH 3840 d3 1 last w0 wf (.s 1) kc kc false (kc + 1) gl gf) 5 (Gives (NtS kc nl nf) (LgH 3840 d3 1 last w0 wf (.s 1) kc kc false (kc + 1) gl gf) 6)) := by
  obtain ⟨ok1, ok2, h⟩ := damage_open hP hfr st hL har hbb hmr ht hi0 hj0 hx hs hk hv hd2
  refine ⟨ok1, ok2, ?_⟩
  rcases h with h | ⟨d3, gs, last, hz, hsame, c5⟩
  · exact .inl h
  right
  have hsm := st.small
  obtain ⟨kc, rfl⟩ : ∃ kc, i0 = kc + 1 := ⟨i0 - 1, by omega⟩
  rw [OpH, show kc + 1 - 1 = kc by omega] at c5
  obtain ⟨nl, hnl⟩ : ∃ nl : Nat → Nat, ∀ i, nl i = (gs (1 + i)).1 := ⟨_, fun _ => rfl⟩
  obtain ⟨nf, hnf⟩ : ∃ nf : Nat → Nat → Int, ∀ i x, nf i x = (gs (1 + i)).2 x := ⟨_, fun _ _ => rfl⟩
  have e1 : ∀ j, j < kc → nl j = ml j := fun j hj => by
    have h1 := (hsame (j + 1) (by omega)).1
    rw [show j + 1 = 1 + j by omega] at h1
    rw [hnl, h1, show 1 + j = j + 1 by omega, cons0_at]
  have e2 : ∀ j, j < kc → ∀ y, y < nl j → nf j y = mf j y := fun j hj y hy => by
    rw [e1 j hj] at hy
    have h1 := (hsame (j + 1) (by omega)).2 y (by rw [cons0_at]; exact hy)
    rw [show j + 1 = 1 + j by omega] at h1
    rw [hnf, h1, show 1 + j = j + 1 by omega, cons0_at]
  have h0 := hsame 0 (by omega)
  have h04 : (gs 0).1 = 4 := h0.1
  have cB := base_fn (P := P) (G := Gf fr) (N := 3840) (gen := 1) (at1 := last) (nb := (gs 0).1) (b := (gs 0).2) (o := .s 1) (c := kc) (su := kc) (cn := kc + 1) (d := d3) (dead := false) (nl := fun i => (gs i).1) (nf := fun i => (gs i).2) hP (by omega)
  have cN := notes_fn (P := P) (G := Gf fr) (N := 3840) (gen := 1) (at1 := last) (nb := (gs 0).1) (b := (gs 0).2) (o := .s 1) (c := kc) (su := kc) (cn := kc + 1) (d := d3) (dead := false) (nl := fun i => (gs i).1) (nf := fun i => (gs i).2) (ml := nl) (mf := nf) hP (.inr ⟨1, rfl⟩) (by show kc + 1 = 1 + kc; omega) (by omega) (fun i hi => ⟨hnl i, by
    have := hms i (by omega)
    rw [e1 i hi]; omega⟩) (fun i _ x => hnf i x)
  exact ⟨d3, last, kc, _, _, _, nl, _, nf, rfl, h04, fun x hx => h0.2 x (by show x < 4; exact hx), fun j hj => ⟨e1 j hj, e2 j hj⟩, by omega, c5, cB, cN⟩
end
end Go.Proofs.YtnjjgipblimbfaaDoor.Dsk
namespace Go.Proofs.YtnjjgipblimbfaaDoor.Dsk
open Go.Eng
open Go.DskLaw (q64 secV)
set_option maxRecDepth 100000
set_option maxHeartbeats 4000000
/-- Rows of 64 bytes. -/
abbrev Rw64 (s : Nat) (F : Nat → Nat → Int) : SV := .ro 1 (.s s) (fun e => [.ro 1 (.s 64) (fun x => [.int .u8 (F e.val x.val)])])
/-- A disk of the document's. -/
abbrev RD (s : Nat) (S L : Nat → Nat → Int) (W : Nat → Bool) (c : Int) : SV := .agg [Rw64 s S, Rw64 s L, .ro 1 (.s s) (fun e => [.bs (W e.val)]), .int .i64 c]

/-- No disk. -/
abbrev RD0 : SV := .agg [.nils, .nils, .nils, .lit .i64 0]
theorem push0 {A : Ar} (hA : Ar.real = A) {n d : Nat} {F : Nat → Nat → Int} {Z : NV → List SV} (hZ : ∀ x, ∃ t, Z x = [t] ∧ intOfSV t = some (.u8, 0)) (hF : ∀ i x, F i x = 0) {e N : NV} (he : ltNV A e N) (hN : N.val = A.addN n 1) :
    leL (leSV A (d + 2)) (catG A 1 (.s n) (fun e => [.ro 1 (.s 64) (fun x => [.int .u8 (F e.val x.val)])]) (fun x => chunkS A 1 [.ro 1 (.l 64) (fun e => Z (addNV A (.l 0) e))] (addNV A (.l 0) x)) e) [.ro 1 (.s 64) (fun x => [.int .u8 (F e.val x.val)])] :=
  Rws.le hA (g := F) (Rws.push hA rfl (v := fun _ => 0) (f := F) (len := 64) (kd := .u8) ⟨_, _, rfl, rfl, fun x _ => hZ _⟩ (fun k => ⟨_, rfl, RowOf.base .u8 64 (F k.val)⟩)) he (by subst hA; rw [hN]; exact Nat.le_refl _) rfl (fun x _ => by split <;> simp [hF])
theorem pushF {A : Ar} (hA : Ar.real = A) {n d : Nat} {W : Nat → Bool} (hW : ∀ i, W i = false) {e N : NV} (he : ltNV A e N) (hN : N.val = A.addN n 1) :
    leL (leSV A (d + 1)) (catG A 1 (.s n) (fun e => [.bs (W e.val)]) (fun x => chunkS A 1 [.bl false] (addNV A (.l 0) x)) e) [.bs (W e.val)] :=
  Bls.le hA (g := W) (Bls.push hA (v := false) (f := W) rfl (fun k => ⟨_, rfl, rfl⟩)) he (by subst hA; rw [hN]; exact Nat.le_refl _) (by split <;> simp [hW])
theorem refnew_own {P : Program} {G : Gl} (hP : P = Tryd.prog) {n : Int} {s : Nat} {S L : Nat → Nat → Int} {W : Nat → Bool} (hn : n = (s : Int)) (h1 : 1 ≤ s ∧ s ≤ 4096) (hS : ∀ i x, S i x = 0) (hL : ∀ i x, L i x = 0) (hW : ∀ i, W i = false) :
    FnTr P G 24 [.int .i64 n] [] 0 (Gives (.tup [.agg [.sl 0 1 (.l 0) (.s s), .sl 1 1 (.l 0) (.s s), .sl 2 1 (.l 0) (.s s), .lit .i64 (-1)], .lit .i64 0])
      [(0, .row 22 1 (.s s) (fun e => [.ro 1 (.s 64) (fun x => [.int .u8 (S e.val x.val)])])), (1, .row 22 1 (.s s) (fun e => [.ro 1 (.s 64) (fun x => [.int .u8 (L e.val x.val)])])), (2, .row 4 1 (.s s) (fun e => [.bs (W e.val)]))] 60) := by
  subst hn
  have hT : T.Ok P := hP ▸ T_ok
  refine FnTr.intro (fn := Tryd.f24) (c := bodyOf Tryd.f24) (by rw [hP]; rfl) rfl rfl hT ?_
  generalize hA : Ar.real = A
  generalize hK : Gives _ _ _ = K
  cbv
  have k1 : A.lt (Int.ofNat s) 1 = false := by subst hA; simp [Ar.real]; omega
  have k2 : A.gt (Int.ofNat s) 4096 = false := by subst hA; simp [Ar.real]; omega
  first | refine testR k1 rfl ?_ | refine testL k1 rfl ?_
  cbv
  first | refine testR k2 rfl ?_ | refine testL k2 rfl ?_
  cbv
  refine LS.ghost 22 1 (.l 0) (fun _ => [.nils]) rfl ?_
  refine LS.ghost 22 1 (.l 0) (fun _ => [.nils]) rfl ?_
  refine LS.ghost 4 1 (.l 0) (fun _ => [.bs false]) rfl ?_
  refine LS.le hT hA 15 (fun (i : Nat) => [(5, .int .i64 (i : Int))]) (fun i => [(9, .cells 46 [.sl 12 1 (.l 0) (.s i), .sl 13 1 (.l 0) (.s i), .sl 14 1 (.l 0) (.s i), .lit .i64 (-1)]), (0, .cells 46 [.nils, .nils, .nils, .lit .i64 0]),
    (12, .row 22 1 (.s i) (fun e => [.ro 1 (.s 64) (fun x => [.int .u8 (S e.val x.val)])])), (13, .row 22 1 (.s i) (fun e => [.ro 1 (.s 64) (fun x => [.int .u8 (L e.val x.val)])])), (14, .row 4 1 (.s i) (fun e => [.bs (W e.val)]))]) (fun i => i ≤ s) (fun i => s - i) 0 [] rfl rfl ?_ ?_ ?_
  · (try cbv) <;> (repeat' (first | exact trivial | exact rfl | apply And.intro | exact fun _ => rfl | (intro _ hle; first | refine chunk_le hA rfl hle rfl ?_ | refine cat_le hA ?_ | refine upd_le hA ?_ | refine int_le ?_ | skip)))
    all_goals first | (exfalso; subst hA; exact absurd (ltNV_real.1 hle) (Nat.not_lt_zero _)) | trace_state
  · exact Nat.zero_le _
  · intro R hR i hi
    cbv
    refine ⟨fun h2 => ?_, fun h2 => ?_⟩
    · have him : i < s := by clear hR; subst hA; simp [Ar.real] at h2; omega
      cbv
      refine DS.runK hA hT (by rw [hP]; exact P_mixed) 4 rfl ?_
      cbv
      refine ⟨⟨(by (subst hA; (try simp only [natCast_eq] at *); (try (simp only [Ar.real, NV.val, Int.ofNat_eq_natCast, Int.toNat_natCast])); first | done | omega | decide | exact inR64 (by omega) (by omega) | (refine ⟨?_, ?_⟩ <;> first | omega | decide | exact inR64 (by omega) (by omega)))), (by (subst hA; (try simp only [natCast_eq] at *); (try (simp only [Ar.real, NV.val, Int.ofNat_eq_natCast, Int.toNat_natCast])); first | done | omega | decide | exact inR64 (by omega) (by omega) | (refine ⟨?_, ?_⟩ <;> first | omega | decide | exact inR64 (by omega) (by omega)))), (by (subst hA; (try simp only [natCast_eq] at *); (try (simp only [Ar.real, NV.val, Int.ofNat_eq_natCast, Int.toNat_natCast])); first | done | omega | decide | exact inR64 (by omega) (by omega) | (refine ⟨?_, ?_⟩ <;> first | omega | decide | exact inR64 (by omega) (by omega)))), (by (subst hA; (try simp only [natCast_eq] at *); (try (simp only [Ar.real, NV.val, Int.ofNat_eq_natCast, Int.toNat_natCast])); first | done | omega | decide | exact inR64 (by omega) (by omega) | (refine ⟨?_, ?_⟩ <;> first | omega | decide | exact inR64 (by omega) (by omega))))⟩, ⟨(by (subst hA; (try simp only [natCast_eq] at *); (try (simp only [Ar.real, NV.val, Int.ofNat_eq_natCast, Int.toNat_natCast])); first | done | omega | decide | exact inR64 (by omega) (by omega) | (refine ⟨?_, ?_⟩ <;> first | omega | decide | exact inR64 (by omega) (by omega)))), trivial⟩, ⟨(by (subst hA; (try simp only [natCast_eq] at *); (try (simp only [Ar.real, NV.val, Int.ofNat_eq_natCast, Int.toNat_natCast])); first | done | omega | decide | exact inR64 (by omega) (by omega) | (refine ⟨?_, ?_⟩ <;> first | omega | decide | exact inR64 (by omega) (by omega)))), (by (subst hA; (try simp only [natCast_eq] at *); (try (simp only [Ar.real, NV.val, Int.ofNat_eq_natCast, Int.toNat_natCast])); first | done | omega | decide | exact inR64 (by omega) (by omega) | (refine ⟨?_, ?_⟩ <;> first | omega | decide | exact inR64 (by omega) (by omega)))), (by (subst hA; (try simp only [natCast_eq] at *); (try (simp only [Ar.real, NV.val, Int.ofNat_eq_natCast, Int.toNat_natCast])); first | done | omega | decide | exact inR64 (by omega) (by omega) | (refine ⟨?_, ?_⟩ <;> first | omega | decide | exact inR64 (by omega) (by omega))))⟩, ?_⟩
      refine DF.fin (by kernel_rfl) (by kernel_rfl) ?_
      cbv
      refine DS.runK hA hT (by rw [hP]; exact P_mixed) 4 rfl ?_
      cbv
      refine ⟨⟨(by (subst hA; (try simp only [natCast_eq] at *); (try (simp only [Ar.real, NV.val, Int.ofNat_eq_natCast, Int.toNat_natCast])); first | done | omega | decide | exact inR64 (by omega) (by omega) | (refine ⟨?_, ?_⟩ <;> first | omega | decide | exact inR64 (by omega) (by omega)))), (by (subst hA; (try simp only [natCast_eq] at *); (try (simp only [Ar.real, NV.val, Int.ofNat_eq_natCast, Int.toNat_natCast])); first | done | omega | decide | exact inR64 (by omega) (by omega) | (refine ⟨?_, ?_⟩ <;> first | omega | decide | exact inR64 (by omega) (by omega)))), (by (subst hA; (try simp only [natCast_eq] at *); (try (simp only [Ar.real, NV.val, Int.ofNat_eq_natCast, Int.toNat_natCast])); first | done | omega | decide | exact inR64 (by omega) (by omega) | (refine ⟨?_, ?_⟩ <;> first | omega | decide | exact inR64 (by omega) (by omega)))), (by (subst hA; (try simp only [natCast_eq] at *); (try (simp only [Ar.real, NV.val, Int.ofNat_eq_natCast, Int.toNat_natCast])); first | done | omega | decide | exact inR64 (by omega) (by omega) | (refine ⟨?_, ?_⟩ <;> first | omega | decide | exact inR64 (by omega) (by omega))))⟩, ⟨(by (subst hA; (try simp only [natCast_eq] at *); (try (simp only [Ar.real, NV.val, Int.ofNat_eq_natCast, Int.toNat_natCast])); first | done | omega | decide | exact inR64 (by omega) (by omega) | (refine ⟨?_, ?_⟩ <;> first | omega | decide | exact inR64 (by omega) (by omega)))), trivial⟩, ⟨(by (subst hA; (try simp only [natCast_eq] at *); (try (simp only [Ar.real, NV.val, Int.ofNat_eq_natCast, Int.toNat_natCast])); first | done | omega | decide | exact inR64 (by omega) (by omega) | (refine ⟨?_, ?_⟩ <;> first | omega | decide | exact inR64 (by omega) (by omega)))), (by (subst hA; (try simp only [natCast_eq] at *); (try (simp only [Ar.real, NV.val, Int.ofNat_eq_natCast, Int.toNat_natCast])); first | done | omega | decide | exact inR64 (by omega) (by omega) | (refine ⟨?_, ?_⟩ <;> first | omega | decide | exact inR64 (by omega) (by omega)))), (by (subst hA; (try simp only [natCast_eq] at *); (try (simp only [Ar.real, NV.val, Int.ofNat_eq_natCast, Int.toNat_natCast])); first | done | omega | decide | exact inR64 (by omega) (by omega) | (refine ⟨?_, ?_⟩ <;> first | omega | decide | exact inR64 (by omega) (by omega))))⟩, ?_⟩
      refine DF.fin (by kernel_rfl) (by kernel_rfl) ?_
      cbv
      refine ⟨⟨(by (subst hA; (try simp only [natCast_eq] at *); (try (simp only [Ar.real, NV.val, Int.ofNat_eq_natCast, Int.toNat_natCast])); first | done | omega | decide | exact inR64 (by omega) (by omega) | (refine ⟨?_, ?_⟩ <;> first | omega | decide | exact inR64 (by omega) (by omega)))), (by (subst hA; (try simp only [natCast_eq] at *); (try (simp only [Ar.real, NV.val, Int.ofNat_eq_natCast, Int.toNat_natCast])); first | done | omega | decide | exact inR64 (by omega) (by omega) | (refine ⟨?_, ?_⟩ <;> first | omega | decide | exact inR64 (by omega) (by omega)))), (by (subst hA; (try simp only [natCast_eq] at *); (try (simp only [Ar.real, NV.val, Int.ofNat_eq_natCast, Int.toNat_natCast])); first | done | omega | decide | exact inR64 (by omega) (by omega) | (refine ⟨?_, ?_⟩ <;> first | omega | decide | exact inR64 (by omega) (by omega))))⟩, (by (subst hA; (try simp only [natCast_eq] at *); (try (simp only [Ar.real, NV.val, Int.ofNat_eq_natCast, Int.toNat_natCast])); first | done | omega | decide | exact inR64 (by omega) (by omega) | (refine ⟨?_, ?_⟩ <;> first | omega | decide | exact inR64 (by omega) (by omega)))), hR _ _ ⟨i + 1, 15, [(34, 12), (62, 13), (77, 14)], rfl, rfl, ?_, him, (by show s - (i + 1) < s - i; omega)⟩⟩
      clear hR
      (try cbv) <;> (repeat' (first | exact trivial | exact rfl | apply And.intro | exact fun _ => rfl | (intro _ hle; first | refine chunk_le hA rfl hle rfl ?_ | refine cat_le hA ?_ | refine upd_le hA ?_ | refine int_le ?_ | skip)))
      all_goals first | exact push0 hA (fun x => ⟨_, rfl, rfl⟩) hS hle rfl | exact push0 hA (fun x => ⟨_, rfl, rfl⟩) hL hle rfl | exact pushF hA hW hle rfl | (subst hA; (try simp only [natCast_eq] at *); (try (simp only [Ar.real, NV.val, Int.ofNat_eq_natCast, Int.toNat_natCast])); first | done | omega | decide | exact inR64 (by omega) (by omega) | (refine ⟨?_, ?_⟩ <;> first | omega | decide | exact inR64 (by omega) (by omega)))
    · have him : i = s := by clear hR; subst hA; simp [Ar.real] at h2; omega
      subst him
      clear hR
      cbv
      refine Fin.le hA 0 [(12, 0), (13, 1), (14, 2)] (.tup [.agg [.sl 0 1 (.l 0) (.s i), .sl 1 1 (.l 0) (.s i), .sl 2 1 (.l 0) (.s i), .lit .i64 (-1)], .lit .i64 0]) _ 60 rfl rfl rfl ?_ ?_ (by rw [← hK]; exact ⟨rfl, rfl, rfl⟩)
      · (try cbv) <;> (repeat' (first | exact trivial | exact rfl | apply And.intro | exact fun _ => rfl | (intro _ hle; first | refine chunk_le hA rfl hle rfl ?_ | refine cat_le hA ?_ | refine upd_le hA ?_ | (try cbv))))
      · (try cbv) <;> (repeat' (first | exact trivial | exact rfl | apply And.intro | exact fun _ => rfl | (intro _ hle; first | refine chunk_le hA rfl hle rfl ?_ | refine cat_le hA ?_ | refine upd_le hA ?_ | (try cbv))))
theorem refnew_fn {P : Program} {G : Gl} (hP : P = Tryd.prog) {n : Int} {s : Nat} {S L : Nat → Nat → Int} {W : Nat → Bool} (hn : n = (s : Int)) (h1 : 1 ≤ s ∧ s ≤ 4096) (hS : ∀ i x, S i x = 0) (hL : ∀ i x, L i x = 0) (hW : ∀ i, W i = false) :
    FnTr P G 24 [.int .i64 n] [] 0 (Gives (.tup [RD s S L W (-1), .lit .i64 0]) [] 60) := by
  have h1 := refnew_own (P := P) (G := G) hP hn h1 hS hL hW
  generalize hA : Ar.real = A
  refine FnTr.dat hA h1 _ _ ?_
  (try cbv) <;> (repeat' (first | exact trivial | exact rfl | apply And.intro | exact fun _ => rfl | (intro _ hle; first | refine chunk_le hA rfl hle rfl ?_ | refine cat_le hA ?_ | refine upd_le hA ?_ | refine int_le ?_ | skip)))
  all_goals (subst hA; (try simp only [natCast_eq] at *); (try (simp only [Ar.real, NV.val, Int.ofNat_eq_natCast, Int.toNat_natCast])); first | done | omega | decide | exact inR64 (by omega) (by omega) | (refine ⟨?_, ?_⟩ <;> first | omega | decide | exact inR64 (by omega) (by omega)))

end Go.Proofs.YtnjjgipblimbfaaDoor.Dsk
namespace Go.Proofs.YtnjjgipblimbfaaDoor.Dsk
open Go.Eng
open Go.DskLaw (q64 secV isB)
open Go.WalLaw
set_option maxRecDepth 100000
set_option maxHeartbeats 1000000
section
variable {P : Program} {G : Gl} {s h g fi en sec : Nat} {S L : Nat → Nat → Int} {W : Nat → Bool} {c : Int}
theorem rhalf_fn (hP : P = Tryd.prog) (hs : 4 ≤ s ∧ s ≤ 4096) (hh : h = (s - 2) / 2) :
    FnTr P G 58 [RD s S L W c] [] 0 (Gives (.int .i64 (h : Int)) [] 10) := by
  have e1 : Int.tdiv ((s : Int) - 2) 2 = (h : Int) := by rw [show ((s : Int) - 2) = ((s - 2 : Nat) : Int) by omega, hh]; rfl
  have hh2 : h ≤ 2047 := by omega
  have hT : T.Ok P := hP ▸ T_ok
  refine FnTr.intro (fn := Tryd.f58) (c := bodyOf Tryd.f58) (by rw [hP]; rfl) rfl rfl hT ?_
  generalize hA : Ar.real = A
  generalize hK : Gives _ _ _ = K
  cbv
  have k1 : A.quo (A.sub (A.i2 s) 2) 2 = (h : Int) := by subst hA; exact e1
  refine ⟨(by (subst hA; (try simp only [natCast_eq] at *); (try (simp only [Ar.real, NV.val, Int.ofNat_eq_natCast, Int.toNat_natCast])); first | done | omega | decide | exact inR64 (by omega) (by omega) | (refine ⟨?_, ?_⟩ <;> first | omega | decide | exact inR64 (by omega) (by omega)))), ⟨(by (subst hA; (try simp only [natCast_eq] at *); (try (simp only [Ar.real, NV.val, Int.ofNat_eq_natCast, Int.toNat_natCast])); first | done | omega | decide | exact inR64 (by omega) (by omega) | (refine ⟨?_, ?_⟩ <;> first | omega | decide | exact inR64 (by omega) (by omega)))), (by (show A.inR .i64 (A.quo (A.sub (A.i2 s) 2) 2)); rw [k1]; (subst hA; (try simp only [natCast_eq] at *); (try (simp only [Ar.real, NV.val, Int.ofNat_eq_natCast, Int.toNat_natCast])); first | done | omega | decide | exact inR64 (by omega) (by omega) | (refine ⟨?_, ?_⟩ <;> first | omega | decide | exact inR64 (by omega) (by omega))))⟩, ?_⟩
  refine Fin.le hA 0 [] (.int .i64 (h : Int)) ([]) 10 rfl rfl rfl ?_ ?_ (by rw [← hK]; exact ⟨rfl, rfl, rfl⟩)
  · (try cbv) <;> (repeat' (first | exact trivial | exact rfl | apply And.intro | exact fun _ => rfl | (intro _ hle; first | refine chunk_le hA rfl hle rfl ?_ | refine cat_le hA ?_ | refine upd_le hA ?_ | (try cbv))))
    exact k1
  · (try cbv) <;> (repeat' (first | exact trivial | exact rfl | apply And.intro | exact fun _ => rfl | (intro _ hle; first | refine chunk_le hA rfl hle rfl ?_ | refine cat_le hA ?_ | refine upd_le hA ?_ | (try cbv))))
theorem rfirst_fn (hP : P = Tryd.prog) (hs : 4 ≤ s ∧ s ≤ 4096) (hh : h = (s - 2) / 2) (hg : g ≤ 1099511627777) (hf : fi = 2 + g % 2 * h) :
    FnTr P G 25 [RD s S L W c, .int .i64 (g : Int)] [] 0 (Gives (.int .i64 (fi : Int)) [] 20) := by
  have a1 := rhalf_fn (P := P) (G := G) (S := S) (L := L) (W := W) (c := c) hP hs hh
  obtain ⟨r, hr⟩ : ∃ r, r = g % 2 := ⟨_, rfl⟩
  obtain ⟨rh, hrh⟩ : ∃ rh, rh = r * h := ⟨_, rfl⟩
  have e0 : Int.tmod (g : Int) 2 = (r : Int) := by rw [hr]; rfl
  have e1 : (r : Int) * (h : Int) = (rh : Int) := by rw [hrh]; exact (Int.natCast_mul r h).symm
  have hh2 : h ≤ 2047 := by omega
  have hr2 : r ≤ 1 := by omega
  have hrh2 : rh ≤ 2047 := by
    rw [hrh]
    have : r = 0 ∨ r = 1 := by omega
    rcases this with e | e <;> rw [e] <;> omega
  have hf : fi = 2 + rh := by rw [hf, ← hr, ← hrh]
  clear hh
  have hT : T.Ok P := hP ▸ T_ok
  refine FnTr.intro (fn := Tryd.f25) (c := bodyOf Tryd.f25) (by rw [hP]; rfl) rfl rfl hT ?_
  generalize hA : Ar.real = A
  generalize hK : Gives _ _ _ = K
  cbv
  have k0 : A.rem (Int.ofNat g) 2 = (r : Int) := by subst hA; exact e0
  have k1 : A.mul (r : Int) (Int.ofNat h) = (rh : Int) := by subst hA; exact e1
  refine ⟨(by (subst hA; (try simp only [natCast_eq] at *); (try (simp only [Ar.real, NV.val, Int.ofNat_eq_natCast, Int.toNat_natCast])); first | done | omega | decide | exact inR64 (by omega) (by omega) | (refine ⟨?_, ?_⟩ <;> first | omega | decide | exact inR64 (by omega) (by omega)))), ?_⟩
  refine CS.le hA (a1) [] rfl rfl rfl ?_ ?_ ?_
  · (try cbv) <;> (repeat' (first | exact trivial | exact rfl | apply And.intro | exact fun _ => rfl | (intro _ hle; first | refine chunk_le hA rfl hle rfl ?_ | refine cat_le hA ?_ | refine upd_le hA ?_ | (try cbv)))) <;> (try (subst hA; (try simp only [natCast_eq] at *); (try (simp only [Ar.real, NV.val, Int.ofNat_eq_natCast, Int.toNat_natCast])); first | done | omega | decide | exact inR64 (by omega) (by omega) | (refine ⟨?_, ?_⟩ <;> first | omega | decide | exact inR64 (by omega) (by omega))))
  · (try cbv) <;> (repeat' (first | exact trivial | exact rfl | apply And.intro | exact fun _ => rfl | (intro _ hle; first | refine chunk_le hA rfl hle rfl ?_ | refine cat_le hA ?_ | refine upd_le hA ?_ | (try cbv))))
  cbv
  have k2 : A.mul (A.rem (Int.ofNat g) 2) (Int.ofNat h) = (rh : Int) := by rw [k0]; exact k1
  refine ⟨by (show A.inR .i64 (A.mul (A.rem (Int.ofNat g) 2) (Int.ofNat h))); rw [k2]; (subst hA; (try simp only [natCast_eq] at *); (try (simp only [Ar.real, NV.val, Int.ofNat_eq_natCast, Int.toNat_natCast])); first | done | omega | decide | exact inR64 (by omega) (by omega) | (refine ⟨?_, ?_⟩ <;> first | omega | decide | exact inR64 (by omega) (by omega))), by (show A.inR .i64 (A.add 2 (A.mul (A.rem (Int.ofNat g) 2) (Int.ofNat h)))); rw [k2]; (subst hA; (try simp only [natCast_eq] at *); (try (simp only [Ar.real, NV.val, Int.ofNat_eq_natCast, Int.toNat_natCast])); first | done | omega | decide | exact inR64 (by omega) (by omega) | (refine ⟨?_, ?_⟩ <;> first | omega | decide | exact inR64 (by omega) (by omega))), ?_⟩
  refine Fin.le hA 0 [] (.int .i64 (fi : Int)) ([]) 20 rfl rfl rfl ?_ ?_ (by rw [← hK]; exact ⟨rfl, rfl, rfl⟩)
  · (try cbv) <;> (repeat' (first | exact trivial | exact rfl | apply And.intro | exact fun _ => rfl | (intro _ hle; first | refine chunk_le hA rfl hle rfl ?_ | refine cat_le hA ?_ | refine upd_le hA ?_ | (try cbv))))
    show A.add 2 (A.mul (A.rem (Int.ofNat g) 2) (Int.ofNat h)) = _
    rw [k2]
    (subst hA; (try simp only [natCast_eq] at *); (try (simp only [Ar.real, NV.val, Int.ofNat_eq_natCast, Int.toNat_natCast])); first | done | omega | decide | exact inR64 (by omega) (by omega) | (refine ⟨?_, ?_⟩ <;> first | omega | decide | exact inR64 (by omega) (by omega)))
  · (try cbv) <;> (repeat' (first | exact trivial | exact rfl | apply And.intro | exact fun _ => rfl | (intro _ hle; first | refine chunk_le hA rfl hle rfl ?_ | refine cat_le hA ?_ | refine upd_le hA ?_ | (try cbv))))
end
end Go.Proofs.YtnjjgipblimbfaaDoor.Dsk
namespace Go.Proofs.YtnjjgipblimbfaaDoor.Dsk
open Go.Eng
open Go.DskLaw (q64 secV isB needN pcs getP)
open Go.WalLaw
open Go.CrcLaw (four turn)
set_option maxRecDepth 100000
set_option maxHeartbeats 4000000
theorem push_i64 {A : Ar} (hA : Ar.real = A) {n d : Nat} {f f' : Nat → Int} {k : Int} (h : ∀ i, i < n + 1 → f' i = if i < n then f i else k) {e N : NV} (he : ltNV A e N) (hN : N.val = A.addN n 1) :
    leL (leSV A (d + 1)) (catG A 1 (.s n) (fun e => [.int .i64 (f e.val)]) (fun x => chunkS A 1 [.int .i64 k] (addNV A (.l 0) x)) e) [.int .i64 (f' e.val)] := by
  have hl := Ints.lits hA (cs := [.int .i64 k]) (kd := .i64) (ns := [k]) rfl
  refine Ints.le hA (F := catG A 1 (.s n) (fun e => [.int .i64 (f e.val)]) (fun x => chunkS A 1 [.int .i64 k] (addNV A (.l 0) x))) (Ints.cat hA (F := fun e => [.int .i64 (f e.val)]) (G := fun x => chunkS A 1 [.int .i64 k] (addNV A (.l 0) x)) (f := f) (n := n) (m := 1) (.s n) rfl (fun k => ⟨_, rfl, rfl⟩) (g := fun i => [k].getD i 0) (fun k hk => hl (.s k) hk) (fun k => ⟨_, _, rfl, rfl⟩) ⟨n, rfl⟩) he (by rw [hN]; subst hA; exact Nat.le_refl _) ?_
  have he : e.val < n + 1 := by have := ltNV_real.1 (hA ▸ he); rw [hN] at this; subst hA; exact this
  rw [h _ he]
  by_cases q : e.val < n
  · rw [if_pos q, if_pos q]
  · rw [if_neg q, if_neg q, show e.val - n = 0 by omega]; rfl
theorem base_bytes {n : Nat} {f : Nat → Int} (hn : n = 4) (h0 : f 0 = 98) (h1 : f 1 = 97) (h2 : f 2 = 115) (h3 : f 3 = 101) : Ar.real.eqL (Ar.real.bytes n f) [98, 97, 115, 101] = true := by
  subst hn
  show ([UInt8.ofNat (f 0).toNat, UInt8.ofNat (f 1).toNat, UInt8.ofNat (f 2).toNat, UInt8.ofNat (f 3).toNat] == [98, 97, 115, 101]) = true
  rw [h0, h1, h2, h3]
  exact beq_self_eq_true _
theorem one31 {A : Ar} (hA : Ar.real = A) {e : NV} {f : Nat → Int} (h : ltNV A e (.l 1)) (hf : ∀ j, f j = 31) : [(31 : Int)].getD e.val 0 = f e.val := by
  have : e.val < 1 := by subst hA; exact ltNV_real.1 h
  rw [show e.val = 0 by omega, hf]; rfl
namespace Dam
def T : Tab := [
  (3, ⟨1, 8, [.lit .i64 0], .int .i64⟩),
  (4, ⟨1, 1, [.bl false], .bool⟩),
  (5, ⟨1, 1, [.lit .u8 0], .int .u8⟩),
  (9, ⟨1, 16, [.str []], .str⟩),
  (22, ⟨1, 24, [.nils], .slice 5⟩),
  (23, ⟨1, 4, [.lit .u32 0], .int .u32⟩),
  (25, ⟨1, 8, [.lit .i64 0], .int .i64⟩),
  (35, ⟨1, 2, [.lit .u16 0], .int .u16⟩),
  (37, ⟨1, 24, [.nils], .slice 22⟩),
  (38, ⟨1, 8, [.nilp], .ptr 87⟩),
  (41, ⟨1, 8, [.nilp], .ptr 94⟩),
  (44, ⟨1, 24, [.nils], .slice 4⟩),
  (46, ⟨4, 80, [.nils, .nils, .nils, .lit .i64 0], .struct [(0, 37), (1, 37), (2, 44), (3, 3)]⟩),
  (50, ⟨1, 24, [.nils], .slice 3⟩),
  (62, ⟨1, 24, [.nils], .slice 106⟩),
  (71, ⟨10, 160, [.nils, .nils, .nils, .lit .i64 0, .lit .i64 0, .lit .i64 0, .nils, .nils, .lit .i64 0, .bl false], .struct [(0, 46), (4, 3), (5, 3), (6, 22), (7, 37), (8, 3), (9, 4)]⟩),
  (79, ⟨1, 8, [.lit .u64 0], .int .u64⟩),
  (85, ⟨1, 8, [.con (.map none)], .map 3 101⟩),
  (87, ⟨4, 48, [.nils, .con (.map none), .bl false, .lit .i64 0], .struct [(0, 22), (1, 85), (2, 4), (3, 3)]⟩),
  (94, ⟨7, 88, [.nilp, .lit .i64 0, .lit .i64 0, .nils, .nils, .lit .i64 0, .bl false], .struct [(0, 38), (1, 3), (2, 3), (3, 22), (4, 37), (5, 3), (6, 4)]⟩),
  (101, ⟨64, 64, [.lit .u8 0, .lit .u8 0, .lit .u8 0, .lit .u8 0, .lit .u8 0, .lit .u8 0, .lit .u8 0, .lit .u8 0, .lit .u8 0, .lit .u8 0, .lit .u8 0, .lit .u8 0, .lit .u8 0, .lit .u8 0, .lit .u8 0, .lit .u8 0, .lit .u8 0, .lit .u8 0, .lit .u8 0, .lit .u8 0, .lit .u8 0, .lit .u8 0, .lit .u8 0, .lit .u8 0, .lit .u8 0, .lit .u8 0, .lit .u8 0, .lit .u8 0, .lit .u8 0, .lit .u8 0, .lit .u8 0, .lit .u8 0, .lit .u8 0, .lit .u8 0, .lit .u8 0, .lit .u8 0, .lit .u8 0, .lit .u8 0, .lit .u8 0, .lit .u8 0, .lit .u8 0, .lit .u8 0, .lit .u8 0, .lit .u8 0, .lit .u8 0, .lit .u8 0, .lit .u8 0, .lit .u8 0, .lit .u8 0, .lit .u8 0, .lit .u8 0, .lit .u8 0, .lit .u8 0, .lit .u8 0, .lit .u8 0, .lit .u8 0, .lit .u8 0, .lit .u8 0, .lit .u8 0, .lit .u8 0, .lit .u8 0, .lit .u8 0, .lit .u8 0, .lit .u8 0], .array 64 5⟩),
  (106, ⟨2, 16, [.lit .i64 0, .lit .i64 0], .struct [(0, 3), (1, 3)]⟩),
  (137, ⟨1, 8, [.lit .u64 0], .int .u64⟩)]
theorem T_ok : T.Ok Tryd.prog := Tab.ok_of_map (by kernel_rfl)
theorem P_mixed : Tryd.prog.follows .mixedOrders = true := by kernel_rfl
theorem damage27_law {P : Program} (hP : P = Tryd.prog) {fr : Nat → Int} (hfr : ∀ i, fr i = ((four i).toNat : Int)) {n : Nat} {ll : Nat → Nat} {lf : Nat → Nat → Int} {ai fo xi : Int} {x : BitVec 32} (hn : n ≤ 9223372036854775807) (hl : ∀ i, i < n → ll i ≤ 9223372036854775807 ∧ ∀ y, y < ll i → 0 ≤ lf i y ∧ lf i y ≤ 255) (hai : 0 ≤ ai ∧ ai ≤ 65535) (hfo : 0 ≤ fo ∧ fo ≤ 65535) (hx : xi = (x.toNat : Int)) :
    FnTr P (Gf fr) 7 [NtS n ll lf, .int .u16 ai, .int .u16 fo, .int .u32 xi] [] 0 (Gives (.bl true) [] 100000) := by
  have cl := lives27_fn (P := P) hP hfr
  by_cases h6 : 6 < n
  · clear hl
    have hT : T.Ok P := hP ▸ T_ok
    refine FnTr.intro (fn := Tryd.f7) (c := bodyOf Tryd.f7) (by rw [hP]; rfl) rfl rfl hT ?_
    generalize hA : Ar.real = A
    generalize hK : Gives _ _ _ = K
    cbv
    have k1 : A.gt (A.i2 n) 6 = true := by clear cl; subst hA; simp [Ar.real]; omega
    first | refine testR k1 rfl ?_ | refine testL k1 rfl ?_
    cbv
    refine CS.le hA (cl) [] rfl rfl rfl ?_ ?_ ?_
    · (try cbv) <;> (repeat' (first | exact trivial | exact rfl | apply And.intro | exact fun _ => rfl | (intro _ hle; first | refine chunk_le hA rfl hle rfl ?_ | refine cat_le hA ?_ | refine upd_le hA ?_ | (try cbv)))) <;> (try (subst hA; (try simp only [natCast_eq] at *); (try (simp only [Ar.real, NV.val, Int.ofNat_eq_natCast, Int.toNat_natCast])); first | done | omega | decide | exact inR64 (by omega) (by omega) | (refine ⟨?_, ?_⟩ <;> first | omega | decide | exact inR64 (by omega) (by omega))))
    · (try cbv) <;> (repeat' (first | exact trivial | exact rfl | apply And.intro | exact fun _ => rfl | (intro _ hle; first | refine chunk_le hA rfl hle rfl ?_ | refine cat_le hA ?_ | refine upd_le hA ?_ | (try cbv))))
    cbv
    refine Fin.le hA 0 [] (.bl true) ([]) 100000 rfl rfl rfl ?_ ?_ (by rw [← hK]; exact ⟨rfl, rfl, rfl⟩)
    · (try cbv) <;> (repeat' (first | exact trivial | exact rfl | apply And.intro | exact fun _ => rfl | (intro _ hle; first | refine chunk_le hA rfl hle rfl ?_ | refine cat_le hA ?_ | refine upd_le hA ?_ | (try cbv))))
    · (try cbv) <;> (repeat' (first | exact trivial | exact rfl | apply And.intro | exact fun _ => rfl | (intro _ hle; first | refine chunk_le hA rfl hle rfl ?_ | refine cat_le hA ?_ | refine upd_le hA ?_ | (try cbv))))
  by_cases hx0 : xi = 0
  · clear hl
    have hT : T.Ok P := hP ▸ T_ok
    refine FnTr.intro (fn := Tryd.f7) (c := bodyOf Tryd.f7) (by rw [hP]; rfl) rfl rfl hT ?_
    generalize hA : Ar.real = A
    generalize hK : Gives _ _ _ = K
    cbv
    have k1 : A.gt (A.i2 n) 6 = false := by clear cl; subst hA; simp [Ar.real]; omega
    have k2 : A.eq xi 0 = true := by clear cl; subst hA; simp [Ar.real]; omega
    first | refine testR k1 rfl ?_ | refine testL k1 rfl ?_
    cbv
    first | refine testR k2 rfl ?_ | refine testL k2 rfl ?_
    cbv
    refine CS.le hA (cl) [] rfl rfl rfl ?_ ?_ ?_
    · (try cbv) <;> (repeat' (first | exact trivial | exact rfl | apply And.intro | exact fun _ => rfl | (intro _ hle; first | refine chunk_le hA rfl hle rfl ?_ | refine cat_le hA ?_ | refine upd_le hA ?_ | (try cbv)))) <;> (try (subst hA; (try simp only [natCast_eq] at *); (try (simp only [Ar.real, NV.val, Int.ofNat_eq_natCast, Int.toNat_natCast])); first | done | omega | decide | exact inR64 (by omega) (by omega) | (refine ⟨?_, ?_⟩ <;> first | omega | decide | exact inR64 (by omega) (by omega))))
    · (try cbv) <;> (repeat' (first | exact trivial | exact rfl | apply And.intro | exact fun _ => rfl | (intro _ hle; first | refine chunk_le hA rfl hle rfl ?_ | refine cat_le hA ?_ | refine upd_le hA ?_ | (try cbv))))
    cbv
    refine Fin.le hA 0 [] (.bl true) ([]) 100000 rfl rfl rfl ?_ ?_ (by rw [← hK]; exact ⟨rfl, rfl, rfl⟩)
    · (try cbv) <;> (repeat' (first | exact trivial | exact rfl | apply And.intro | exact fun _ => rfl | (intro _ hle; first | refine chunk_le hA rfl hle rfl ?_ | refine cat_le hA ?_ | refine upd_le hA ?_ | (try cbv))))
    · (try cbv) <;> (repeat' (first | exact trivial | exact rfl | apply And.intro | exact fun _ => rfl | (intro _ hle; first | refine chunk_le hA rfl hle rfl ?_ | refine cat_le hA ?_ | refine upd_le hA ?_ | (try cbv))))
  have hxz : x ≠ 0#32 := fun e => hx0 (by rw [hx, e]; rfl)
  obtain ⟨z, hz⟩ : ∃ z : Nat → Int, ∀ x, z x = 0 := ⟨fun _ => 0, fun _ => rfl⟩
  obtain ⟨L0, hL0⟩ : ∃ L0 : Int → Option (Nat → Int), ∀ k, L0 k = none := ⟨fun _ => none, fun _ => rfl⟩
  obtain ⟨zz, hzz⟩ : ∃ zz : Nat → Nat → Int, ∀ i x, zz i x = 0 := ⟨fun _ _ => 0, fun _ _ => rfl⟩
  obtain ⟨W0, hW0⟩ : ∃ W0 : Nat → Bool, ∀ i, W0 i = false := ⟨fun _ => false, fun _ => rfl⟩
  obtain ⟨bb, hbb⟩ : ∃ bb : Nat → Int, ∀ i, bb i = ([98, 97, 115, 101] : List Int).getD i 0 := ⟨_, fun _ => rfl⟩
  obtain ⟨m0, hm0⟩ : ∃ m0 : Nat → Nat, m0 = fun _ => 0 := ⟨_, rfl⟩
  obtain ⟨n0, hn0⟩ : ∃ n0 : Nat → Nat → Int, n0 = fun _ _ => 0 := ⟨_, rfl⟩
  obtain ⟨s0, hs0⟩ : ∃ s0 : Nat → Int, ∀ j, s0 j = 31 := ⟨fun _ => 31, fun _ => rfl⟩
  have rb : ∀ i, 0 ≤ bb i ∧ bb i ≤ 255 := fun i => by rw [hbb]; exact lit_byte _ (by decide) i
  have reg1 : Reg 60 29 1 31 60 := ⟨by omega, rfl, by omega, rfl, rfl⟩
  have c1 := new_ok (P := P) (G := Gf fr) (n := 60) (s := 60) (N := 3840) (S := z) (L := L0) hP rfl (by omega) rfl hz hL0
  have c2 := refnew_fn (P := P) (G := Gf fr) (n := 60) (s := 60) (S := zz) (L := zz) (W := W0) hP rfl (by omega) hzz hzz hW0
  have c3 := rfirst_fn (P := P) (G := Gf fr) (s := 60) (h := 29) (g := 1) (fi := 31) (S := zz) (L := zz) (W := W0) (c := -1) hP (by omega) rfl (by omega) rfl
  obtain ⟨d1, ar1, _, st1, cB⟩ := begin_st hP hfr (N := 3840) (d := ⟨z, L0, false, 0⟩) rfl reg1 (bn := 4) (b := bb) (fun i _ => rb i) (by omega) (by decide) hz hL0 rfl rfl m0 n0
  obtain ⟨at0, hat0⟩ : ∃ at0, at0 = atL 31 4 m0 0 := ⟨_, rfl⟩
  have hat32 : at0 = 32 := by rw [hat0]; show 31 + needN 8 = 32; decide
  rw [← hat0] at cB
  have hT : T.Ok P := hP ▸ T_ok
  refine FnTr.intro (fn := Tryd.f7) (c := bodyOf Tryd.f7) (by rw [hP]; rfl) rfl rfl hT ?_
  generalize hA : Ar.real = A
  generalize hK : Gives _ _ _ = K
  cbv
  have k1 : A.gt (A.i2 n) 6 = false := by clear cl c1 c2 c3 cB; subst hA; simp [Ar.real]; omega
  have k2 : A.eq xi 0 = false := by clear cl c1 c2 c3 cB; subst hA; simpa [Ar.real] using hx0
  first | refine testR k1 rfl ?_ | refine testL k1 rfl ?_
  cbv
  first | refine testR k2 rfl ?_ | refine testL k2 rfl ?_
  cbv
  refine CS.le hA (c1) [] rfl rfl rfl ?_ ?_ ?_
  · (try cbv) <;> (repeat' (first | exact trivial | exact rfl | apply And.intro | exact fun _ => rfl | (intro _ hle; first | refine chunk_le hA rfl hle rfl ?_ | refine cat_le hA ?_ | refine upd_le hA ?_ | (try cbv)))) <;> (try (subst hA; (try simp only [natCast_eq] at *); (try (simp only [Ar.real, NV.val, Int.ofNat_eq_natCast, Int.toNat_natCast])); first | done | omega | decide | exact inR64 (by omega) (by omega) | (refine ⟨?_, ?_⟩ <;> first | omega | decide | exact inR64 (by omega) (by omega))))
  · (try cbv) <;> (repeat' (first | exact trivial | exact rfl | apply And.intro | exact fun _ => rfl | (intro _ hle; first | refine chunk_le hA rfl hle rfl ?_ | refine cat_le hA ?_ | refine upd_le hA ?_ | (try cbv))))
  cbv
  refine CS.frzA hA (by (try cbv) <;> (repeat' (first | exact trivial | exact rfl | apply And.intro | exact fun _ => rfl | (intro _ hle; first | refine chunk_le hA rfl hle rfl ?_ | refine cat_le hA ?_ | refine upd_le hA ?_ | (try cbv)))); all_goals (subst hA; (try simp only [natCast_eq] at *); (try (simp only [Ar.real, NV.val, Int.ofNat_eq_natCast, Int.toNat_natCast])); first | done | omega | decide | exact inR64 (by omega) (by omega) | (refine ⟨?_, ?_⟩ <;> first | omega | decide | exact inR64 (by omega) (by omega)))) ?_
  cbv
  refine CS.le hA (cB) [(8, 0), (9, 1), (10, 2)] rfl rfl rfl ?_ ?_ ?_
  · (try cbv) <;> (repeat' (first | exact trivial | exact rfl | apply And.intro | exact fun _ => rfl | (intro _ hle; first | refine chunk_le hA rfl hle rfl ?_ | refine cat_le hA ?_ | refine upd_le hA ?_ | (try cbv)))) <;> (try (subst hA; (try simp only [natCast_eq] at *); (try (simp only [Ar.real, NV.val, Int.ofNat_eq_natCast, Int.toNat_natCast])); first | done | omega | decide | exact inR64 (by omega) (by omega) | (refine ⟨?_, ?_⟩ <;> first | omega | decide | exact inR64 (by omega) (by omega)))) <;> (try first | exact (hbb _))
  · (try cbv) <;> (repeat' (first | exact trivial | exact rfl | apply And.intro | exact fun _ => rfl | (intro _ hle; first | refine chunk_le hA rfl hle rfl ?_ | refine cat_le hA ?_ | refine upd_le hA ?_ | (try cbv)))) <;> (try first | exact (hbb _))
  cbv
  refine CS.le hA (c2) [] rfl rfl rfl ?_ ?_ ?_
  · (try cbv) <;> (repeat' (first | exact trivial | exact rfl | apply And.intro | exact fun _ => rfl | (intro _ hle; first | refine chunk_le hA rfl hle rfl ?_ | refine cat_le hA ?_ | refine upd_le hA ?_ | (try cbv)))) <;> (try (subst hA; (try simp only [natCast_eq] at *); (try (simp only [Ar.real, NV.val, Int.ofNat_eq_natCast, Int.toNat_natCast])); first | done | omega | decide | exact inR64 (by omega) (by omega) | (refine ⟨?_, ?_⟩ <;> first | omega | decide | exact inR64 (by omega) (by omega))))
  · (try cbv) <;> (repeat' (first | exact trivial | exact rfl | apply And.intro | exact fun _ => rfl | (intro _ hle; first | refine chunk_le hA rfl hle rfl ?_ | refine cat_le hA ?_ | refine upd_le hA ?_ | (try cbv))))
  cbv
  refine CS.leR hA (c3) (.lit .i64 31) [] rfl rfl rfl ?_ ?_ ?_ ?_
  · (try cbv) <;> (repeat' (first | exact trivial | exact rfl | apply And.intro | exact fun _ => rfl | (intro _ hle; first | refine chunk_le hA rfl hle rfl ?_ | refine cat_le hA ?_ | refine upd_le hA ?_ | (try cbv)))) <;> (try (subst hA; (try simp only [natCast_eq] at *); (try (simp only [Ar.real, NV.val, Int.ofNat_eq_natCast, Int.toNat_natCast])); first | done | omega | decide | exact inR64 (by omega) (by omega) | (refine ⟨?_, ?_⟩ <;> first | omega | decide | exact inR64 (by omega) (by omega))))
  · (try cbv) <;> (repeat' (first | exact trivial | exact rfl | apply And.intro | exact fun _ => rfl | (intro _ hle; first | refine chunk_le hA rfl hle rfl ?_ | refine cat_le hA ?_ | refine upd_le hA ?_ | (try cbv)))) <;> (try (subst hA; (try simp only [natCast_eq] at *); (try (simp only [Ar.real, NV.val, Int.ofNat_eq_natCast, Int.toNat_natCast])); first | done | omega | decide | exact inR64 (by omega) (by omega) | (refine ⟨?_, ?_⟩ <;> first | omega | decide | exact inR64 (by omega) (by omega))))
  · (try cbv) <;> (repeat' (first | exact trivial | exact rfl | apply And.intro | exact fun _ => rfl | (intro _ hle; first | refine chunk_le hA rfl hle rfl ?_ | refine cat_le hA ?_ | refine upd_le hA ?_ | (try cbv))))
  cbv
  refine LS.clr [13, 27, 28, 29, 30, 31, 32, 33, 34, 35, 36, 37, 38, 39, 40, 41, 42, 43, 44, 45, 46, 47, 48, 49, 50, 51, 52, 53, 54, 55, 56, 57, 58, 59, 60, 61, 62, 63, 64, 65, 66, 67] ?_
  cbv
  refine LS.le7 hT hA 30 (fun (i m : Nat) (d : Dk) (at1 : Nat) (ml : Nat → Nat) (mf : Nat → Nat → Int) (ss : Nat → Int) => [(16, .sl 30 1 (.l 0) (.s m)), (17, .int .i64 (at1 : Int)), (18, .int .i64 (i : Int))])
    (fun i m d at1 ml mf ss => DHn 8 9 10 3840 d.S d.L d.ar d.ca ++ [(28, .cells 94 [.ptr 8 0, .int .i64 ((1 : Nat) : Int), .int .i64 (at1 : Int), By 4 bb, .sl 29 1 (.l 0) (.s i), .int .i64 ((0 : Nat) : Int), .bs false]), (29, LgR i ml mf), (30, .row 3 1 (.s m) (fun e => [.int .i64 (ss e.val)]))])
    (fun i m d at1 ml mf ss => i ≤ n ∧ m = i + 1 ∧ d.ar = false ∧ (LgSt 60 29 d 1 31 60 0 i 4 bb ml mf ∧ at1 = atL 31 4 ml i) ∧ at1 ≤ 32 + 4 * i ∧ (∀ j, j < i → ml j = ll j ∧ ll j ≤ 200 ∧ ∀ y, y < ll j → mf j y = lf j y) ∧ ∀ j, j < m → ss j = ((stN 31 (cons0 4 ml) j : Nat) : Int))
    (fun i _ _ _ _ _ _ => n - i) 0 1 d1 at0 m0 n0 s0 [(9125, 30)] rfl rfl ?_ ?_ ?_
  · (try cbv) <;> (repeat' (first | exact trivial | exact rfl | apply And.intro | exact fun _ => rfl | (intro _ hle; first | refine chunk_le hA rfl hle rfl ?_ | refine cat_le hA ?_ | refine upd_le hA ?_ | refine int_le ?_ | skip)))
    all_goals first | exact hbb _ | exact hat32.symm | exact (one31 hA (by assumption) hs0).symm | exact one31 hA (by assumption) hs0 | (subst hA; (try simp only [natCast_eq] at *); (try (simp only [Ar.real, NV.val, Int.ofNat_eq_natCast, Int.toNat_natCast])); first | done | omega | decide | exact inR64 (by omega) (by omega) | (refine ⟨?_, ?_⟩ <;> first | omega | decide | exact inR64 (by omega) (by omega))) | trace_state
  · exact ⟨Nat.zero_le _, rfl, ar1, ⟨st1, hat0⟩, by omega, fun j hj => absurd hj (Nat.not_lt_zero _), fun j hj => by rw [hs0, show j = 0 by omega]; rfl⟩
  · intro R hR i m d at1 ml mf ss hp
    cbv
    obtain ⟨hi, hm, har, ⟨st, hat⟩, h32, hlr, hss⟩ := hp
    have hsm := st.small
    have hat : at1 = atL 31 4 ml i := hat
    refine ⟨fun h1 => ?_, fun h1 => ?_⟩
    · have hin : i < n := by clear hR cl c1 c2 c3 cB; subst hA; simp [Ar.real] at h1; omega
      have hkn : A.nat (Int.ofNat i) = i := by subst hA; rfl
      obtain ⟨li, hli⟩ : ∃ x, x = ll i := ⟨_, rfl⟩
      obtain ⟨fi, hfi⟩ : ∃ x, x = lf i := ⟨_, rfl⟩
      have eln : ll (A.nat (Int.ofNat i)) = li := by rw [hkn, hli]
      have efn : ∀ y, lf (A.nat (Int.ofNat i)) y = fi y := fun y => by rw [hkn, hfi]
      have hfr' : ∀ y, y < li → 0 ≤ fi y ∧ fi y ≤ 255 := by rw [hli, hfi]; exact (hl i hin).2
      by_cases q : 200 < li
      · have k1 : A.gt (A.i2 (ll (A.nat (Int.ofNat i)))) 200 = true := by rw [eln]; clear hR cl c1 c2 c3 cB; subst hA; simp [Ar.real]; omega
        clear hR st hlr hss
        cbv
        refine ⟨(by (subst hA; (try simp only [natCast_eq] at *); (try (simp only [Ar.real, NV.val, Int.ofNat_eq_natCast, Int.toNat_natCast])); first | done | omega | decide | exact inR64 (by omega) (by omega) | (refine ⟨?_, ?_⟩ <;> first | omega | decide | exact inR64 (by omega) (by omega)))), ?_⟩
        first | refine testR k1 rfl ?_ | refine testL k1 rfl ?_
        cbv
        refine CS.le hA (cl) [] rfl rfl rfl ?_ ?_ ?_
        · (try cbv) <;> (repeat' (first | exact trivial | exact rfl | apply And.intro | exact fun _ => rfl | (intro _ hle; first | refine chunk_le hA rfl hle rfl ?_ | refine cat_le hA ?_ | refine upd_le hA ?_ | (try cbv)))) <;> (try (subst hA; (try simp only [natCast_eq] at *); (try (simp only [Ar.real, NV.val, Int.ofNat_eq_natCast, Int.toNat_natCast])); first | done | omega | decide | exact inR64 (by omega) (by omega) | (refine ⟨?_, ?_⟩ <;> first | omega | decide | exact inR64 (by omega) (by omega))))
        · (try cbv) <;> (repeat' (first | exact trivial | exact rfl | apply And.intro | exact fun _ => rfl | (intro _ hle; first | refine chunk_le hA rfl hle rfl ?_ | refine cat_le hA ?_ | refine upd_le hA ?_ | (try cbv))))
        cbv
        refine Fin.le hA 0 [] (.bl true) ([]) 100000 rfl rfl rfl ?_ ?_ (by rw [← hK]; exact ⟨rfl, rfl, rfl⟩)
        · (try cbv) <;> (repeat' (first | exact trivial | exact rfl | apply And.intro | exact fun _ => rfl | (intro _ hle; first | refine chunk_le hA rfl hle rfl ?_ | refine cat_le hA ?_ | refine upd_le hA ?_ | (try cbv))))
        · (try cbv) <;> (repeat' (first | exact trivial | exact rfl | apply And.intro | exact fun _ => rfl | (intro _ hle; first | refine chunk_le hA rfl hle rfl ?_ | refine cat_le hA ?_ | refine upd_le hA ?_ | (try cbv))))
      · have k1 : A.gt (A.i2 (ll (A.nat (Int.ofNat i)))) 200 = false := by rw [eln]; clear hR cl c1 c2 c3 cB; subst hA; simp [Ar.real]; omega
        obtain ⟨ml', hml⟩ : ∃ ml' : Nat → Nat, ∀ j, ml' j = if j < i then ml j else li := ⟨_, fun _ => rfl⟩
        obtain ⟨mf', hmf⟩ : ∃ mf' : Nat → Nat → Int, ∀ j x, mf' j x = if j < i then mf j x else fi x := ⟨_, fun _ _ => rfl⟩
        have hnd : needN (li + 4) ≤ 4 := by unfold DskLaw.needN; omega
        obtain ⟨d1', ear, ea, st', ca⟩ := append_run (N := 3840) hP hfr rfl st (n := li) (f := fi) hfr' (by omega) hml hmf har (by rw [show atL 31 4 ml i = at1 from hat.symm]; omega)
        obtain ⟨at2, hat2⟩ : ∃ x, x = atL 31 4 ml' (i + 1) := ⟨_, rfl⟩
        rw [show atL 31 4 ml i = at1 from hat.symm, show atL 31 4 ml' (i + 1) = at2 from hat2.symm] at ca
        rw [← hat2, show atL 31 4 ml i = at1 from hat.symm] at ea
        obtain ⟨i2, hi2⟩ : ∃ x, x = i + 1 := ⟨_, rfl⟩
        rw [← hi2] at ca st' hat2
        obtain ⟨ss', hss'⟩ : ∃ ss' : Nat → Int, ∀ j, j < m + 1 → ss' j = if j < m then ss j else (at1 : Int) := ⟨fun j => if j < m then ss j else (at1 : Int), fun _ _ => rfl⟩
        obtain ⟨nd, hnd2⟩ : ∃ x, x = needN (li + 4) := ⟨_, rfl⟩
        rw [← hnd2] at ea hnd
        have c5 := refneed_fn (P := P) (G := Gf fr) hP (li + 4) (n := ((li + 4 : Nat) : Int)) (m := nd) (by omega) (by omega) (by omega) (by rw [hnd2]; rfl)
        cbv
        refine ⟨(by (subst hA; (try simp only [natCast_eq] at *); (try (simp only [Ar.real, NV.val, Int.ofNat_eq_natCast, Int.toNat_natCast])); first | done | omega | decide | exact inR64 (by omega) (by omega) | (refine ⟨?_, ?_⟩ <;> first | omega | decide | exact inR64 (by omega) (by omega)))), ?_⟩
        first | refine testR k1 rfl ?_ | refine testL k1 rfl ?_
        cbv
        refine ⟨(by (subst hA; (try simp only [natCast_eq] at *); (try (simp only [Ar.real, NV.val, Int.ofNat_eq_natCast, Int.toNat_natCast])); first | done | omega | decide | exact inR64 (by omega) (by omega) | (refine ⟨?_, ?_⟩ <;> first | omega | decide | exact inR64 (by omega) (by omega)))), ?_⟩
        refine CS.le hA (ca) [(8, 0), (9, 1), (10, 2), (28, 3), (29, 4)] rfl rfl rfl ?_ ?_ ?_
        · (try cbv) <;> (repeat' (first | exact trivial | exact rfl | apply And.intro | exact fun _ => rfl | (intro _ hle; first | refine chunk_le hA rfl hle rfl ?_ | refine cat_le hA ?_ | refine upd_le hA ?_ | (try cbv)))) <;> (try (subst hA; (try simp only [natCast_eq] at *); (try (simp only [Ar.real, NV.val, Int.ofNat_eq_natCast, Int.toNat_natCast])); first | done | omega | decide | exact inR64 (by omega) (by omega) | (refine ⟨?_, ?_⟩ <;> first | omega | decide | exact inR64 (by omega) (by omega)))) <;> (try first | exact eln | exact efn _ | exact eln.symm | exact (efn _).symm)
        · (try cbv) <;> (repeat' (first | exact trivial | exact rfl | apply And.intro | exact fun _ => rfl | (intro _ hle; first | refine chunk_le hA rfl hle rfl ?_ | refine cat_le hA ?_ | refine upd_le hA ?_ | (try cbv)))) <;> (try first | exact eln | exact efn _ | exact eln.symm | exact (efn _).symm)
        cbv
        have keq : A.add (A.i2 (ll (A.nat (Int.ofNat i)))) 4 = ((li + 4 : Nat) : Int) := by rw [eln]; clear hR cl c1 c2 c3 cB ca c5; subst hA; show (li : Int) + 4 = _; omega
        refine ⟨⟨(by (subst hA; (try simp only [natCast_eq] at *); (try (simp only [Ar.real, NV.val, Int.ofNat_eq_natCast, Int.toNat_natCast])); first | done | omega | decide | exact inR64 (by omega) (by omega) | (refine ⟨?_, ?_⟩ <;> first | omega | decide | exact inR64 (by omega) (by omega)))), (by (subst hA; (try simp only [natCast_eq] at *); (try (simp only [Ar.real, NV.val, Int.ofNat_eq_natCast, Int.toNat_natCast])); first | done | omega | decide | exact inR64 (by omega) (by omega) | (refine ⟨?_, ?_⟩ <;> first | omega | decide | exact inR64 (by omega) (by omega)))), (by (subst hA; (try simp only [natCast_eq] at *); (try (simp only [Ar.real, NV.val, Int.ofNat_eq_natCast, Int.toNat_natCast])); first | done | omega | decide | exact inR64 (by omega) (by omega) | (refine ⟨?_, ?_⟩ <;> first | omega | decide | exact inR64 (by omega) (by omega))))⟩, (by (subst hA; (try simp only [natCast_eq] at *); (try (simp only [Ar.real, NV.val, Int.ofNat_eq_natCast, Int.toNat_natCast])); first | done | omega | decide | exact inR64 (by omega) (by omega) | (refine ⟨?_, ?_⟩ <;> first | omega | decide | exact inR64 (by omega) (by omega)))), (by (show A.inR .i64 (A.add (A.i2 (ll (A.nat (Int.ofNat i)))) 4)); rw [keq]; clear hR cl c1 c2 c3 cB ca c5; (subst hA; (try simp only [natCast_eq] at *); (try (simp only [Ar.real, NV.val, Int.ofNat_eq_natCast, Int.toNat_natCast])); first | done | omega | decide | exact inR64 (by omega) (by omega) | (refine ⟨?_, ?_⟩ <;> first | omega | decide | exact inR64 (by omega) (by omega)))), ?_⟩
        refine CS.le hA (c5) [] rfl rfl rfl ?_ ?_ ?_
        · (try cbv) <;> (repeat' (first | exact trivial | exact rfl | apply And.intro | exact fun _ => rfl | (intro _ hle; first | refine chunk_le hA rfl hle rfl ?_ | refine cat_le hA ?_ | refine upd_le hA ?_ | (try cbv)))) <;> (try (subst hA; (try simp only [natCast_eq] at *); (try (simp only [Ar.real, NV.val, Int.ofNat_eq_natCast, Int.toNat_natCast])); first | done | omega | decide | exact inR64 (by omega) (by omega) | (refine ⟨?_, ?_⟩ <;> first | omega | decide | exact inR64 (by omega) (by omega))))
        · (try cbv) <;> (repeat' (first | exact trivial | exact rfl | apply And.intro | exact fun _ => rfl | (intro _ hle; first | refine chunk_le hA rfl hle rfl ?_ | refine cat_le hA ?_ | refine upd_le hA ?_ | (try cbv))))
        cbv
        have hcg : ∀ k, k < i + 1 → cons0 4 ml' k = cons0 4 ml k := fun k hk => by
          cases k with
          | zero => rfl
          | succ k => rw [cons0_at, cons0_at, hml, if_pos (by omega)]
        refine ⟨(by (subst hA; (try simp only [natCast_eq] at *); (try (simp only [Ar.real, NV.val, Int.ofNat_eq_natCast, Int.toNat_natCast])); first | done | omega | decide | exact inR64 (by omega) (by omega) | (refine ⟨?_, ?_⟩ <;> first | omega | decide | exact inR64 (by omega) (by omega)))), (by (subst hA; (try simp only [natCast_eq] at *); (try (simp only [Ar.real, NV.val, Int.ofNat_eq_natCast, Int.toNat_natCast])); first | done | omega | decide | exact inR64 (by omega) (by omega) | (refine ⟨?_, ?_⟩ <;> first | omega | decide | exact inR64 (by omega) (by omega)))), hR _ _ _ _ _ _ _ _ ⟨i2, m + 1, d1', at2, ml', mf', ss', 29, [(52, 29), (3052, 30)], rfl, rfl, ?_, ⟨by omega, by omega, ear, ⟨st', hat2⟩, by omega, ?_, ?_⟩, (by show n - i2 < n - i; omega)⟩⟩
        · clear hR cl c1 c2 c3 cB ca c5
          (try cbv) <;> (repeat' (first | exact trivial | exact rfl | apply And.intro | exact fun _ => rfl | (intro _ hle; first | refine chunk_le hA rfl hle rfl ?_ | refine cat_le hA ?_ | refine upd_le hA ?_ | refine int_le ?_ | skip)))
          all_goals first | exact push_i64 hA hss' (by assumption) rfl | (subst hA; first | rfl | omega | (show (at1 : Int) + (nd : Int) = (at2 : Int); omega)) | (subst hA; (try simp only [natCast_eq] at *); (try (simp only [Ar.real, NV.val, Int.ofNat_eq_natCast, Int.toNat_natCast])); first | done | omega | decide | exact inR64 (by omega) (by omega) | (refine ⟨?_, ?_⟩ <;> first | omega | decide | exact inR64 (by omega) (by omega))) | trace_state
        · intro j hj
          rw [hml]
          by_cases q2 : j < i
          · rw [if_pos q2]
            exact ⟨(hlr j q2).1, (hlr j q2).2.1, fun y hy => by rw [hmf, if_pos q2]; exact (hlr j q2).2.2 y hy⟩
          · have e : j = i := by omega
            subst e
            rw [if_neg q2]
            exact ⟨hli, by omega, fun y hy => by rw [hmf, if_neg q2, hfi]⟩
        · intro j hj
          show ss' j = ((stN 31 (cons0 4 ml') j : Nat) : Int)
          rw [hss' j hj, stN_congr hcg j (by omega)]
          by_cases q2 : j < m
          · rw [if_pos q2, hss j q2]
          · rw [if_neg q2, hat, show j = i + 1 by omega]
    · have hin : i = n := by clear hR cl c1 c2 c3 cB; subst hA; simp [Ar.real] at h1; omega
      subst hin
      clear hR
      have ho : ¬ offD d := fun q => by have := q.1; rw [har] at this; cases this
      obtain ⟨d2, ear2, hL2, st2, cS⟩ := sync_st (P := P) (G := Gf fr) (N := 3840) hP rfl st ho
      rw [show atL 31 4 ml i = at1 from hat.symm] at cS
      have har2 : d2.ar = false := ear2.trans har
      have h32' : 32 ≤ at1 := by
        rw [hat]
        have h1 : stN 31 (cons0 4 ml) 1 ≤ stN 31 (cons0 4 ml) (i + 1) := stN_mono (by omega)
        have h2 : stN 31 (cons0 4 ml) 1 = 32 := by show 31 + needN 8 = 32; decide
        show 32 ≤ stN 31 (cons0 4 ml) (i + 1)
        omega
      obtain ⟨k, hk⟩ : ∃ k, k = ai.toNat % (at1 - 31) := ⟨_, rfl⟩
      have hklt : k < at1 - 31 := by rw [hk]; exact Nat.mod_lt _ (by omega)
      have hkm : Int.tmod (IntKind.i64.wrap ai) ((at1 : Int) - 31) = (k : Int) := by
        rw [show IntKind.i64.wrap ai = ((ai.toNat : Nat) : Int) by rw [IntKind.wrap_i64]; omega, show ((at1 : Int) - 31) = ((at1 - 31 : Nat) : Int) by omega, hk]
        exact rem_nat _ _
      obtain ⟨t, ht⟩ : ∃ t, t = 31 + k := ⟨_, rfl⟩
      obtain ⟨i0, j0, hi0, hj0, hij⟩ := stN_find (fi := 31) (nl := cons0 4 ml) (i + 1) t (by omega) (by show t < atL 31 4 ml i; rw [show atL 31 4 ml i = at1 from hat.symm]; omega)
      have ht60 : t < 60 := by omega
      obtain ⟨us, hus⟩ : ∃ us, us = min (cons0 4 ml i0 + 4 - 62 * j0) 62 := ⟨_, rfl⟩
      obtain ⟨v, hv⟩ : ∃ v, v = secV d2.S d2.L t := ⟨_, rfl⟩
      have ho2 : ¬ offD d2 := fun q => by have := q.1; rw [har2] at this; cases this
      have hvS : ∀ y, y < 64 → v y = d2.S (64 * t + y) := fun y _ => by rw [hv, secV_eq hL2]
      have hvr : ∀ y, y < 64 → 0 ≤ v y ∧ v y ≤ 255 := fun y hy => by rw [hvS y hy]; exact st2.ok.sb _ (by omega)
      have hv62 : v 62 = (us : Int) := by
        rw [hvS 62 (by omega), hij, st2.log.recs i0 (by omega) j0 hj0 62 (by omega), hus]
        rfl
      have hv62' : v 62 = ((us : Nat) : Int) := hv62
      have c6 := read_own (P := P) (G := Gf fr) (N := 3840) (s := 60) (i := t) (v := v) (S := d2.S) (L := d2.L) (ar := d2.ar) (ca := d2.ca) hP ho2 rfl (by omega) ht60 hv
      obtain ⟨s, hs⟩ : ∃ s : Nat → BitVec 32, ∀ y, y < 64 → v y = ((s y).toNat : Int) := ⟨fun y => BitVec.ofNat 32 (v y).toNat, fun y hy => by have := hvr y hy; rw [BitVec.toNat_ofNat]; omega⟩
      have hs8 : ∀ y, y < 64 → (s y).toNat < 256 := fun y hy => by have := hvr y hy; have := hs y hy; omega
      have htl : ∀ b y, y < 64 → (turn s x (fo.toNat % (8 * us - 31)) b y).toNat < 256 := fun b y hy => by
        have h1 := CrcLaw.turn_lt (g := fun j => if j < 64 then s j else 0#32) (x := x) (k := fo.toNat % (8 * us - 31)) (fun j => by
          show (if j < 64 then s j else 0#32).toNat < 256
          by_cases q : j < 64
          · rw [if_pos q]; exact hs8 j q
          · rw [if_neg q]; decide) b y
        rw [turn_congr (g := s) (g' := fun j => if j < 64 then s j else 0#32) (by show s y = if y < 64 then s y else _; rw [if_pos hy])]
        exact h1
      have ktt : ∀ {A : Ar}, Ar.real = A → A.add 31 (A.rem (A.conv .i64 ai) (A.sub (Int.ofNat at1) 31)) = (t : Int) := by
        intro A hA
        subst hA
        show (31 : Int) + Int.tmod (IntKind.i64.wrap ai) ((at1 : Int) - 31) = _
        rw [hkm]; omega
      have ktr := ktt hA
      have kl4 : A.lt (v 62) 4 = decide (us < 4) := by rw [hv62]; clear cl c1 c2 c3 cB cS c6 ktr; subst hA; rw [Bool.eq_iff_iff]; simp [Ar.real]; omega
      have kg62 : A.gt (v 62) 62 = false := by rw [hv62]; clear cl c1 c2 c3 cB cS c6 ktr; subst hA; simp [Ar.real]; omega
      cbv
      refine CS.le hA (cS) [(8, 0), (9, 1), (10, 2), (28, 3), (29, 4)] rfl rfl rfl ?_ ?_ ?_
      · (try cbv) <;> (repeat' (first | exact trivial | exact rfl | apply And.intro | exact fun _ => rfl | (intro _ hle; first | refine chunk_le hA rfl hle rfl ?_ | refine cat_le hA ?_ | refine upd_le hA ?_ | (try cbv)))) <;> (try (subst hA; (try simp only [natCast_eq] at *); (try (simp only [Ar.real, NV.val, Int.ofNat_eq_natCast, Int.toNat_natCast])); first | done | omega | decide | exact inR64 (by omega) (by omega) | (refine ⟨?_, ?_⟩ <;> first | omega | decide | exact inR64 (by omega) (by omega))))
      · (try cbv) <;> (repeat' (first | exact trivial | exact rfl | apply And.intro | exact fun _ => rfl | (intro _ hle; first | refine chunk_le hA rfl hle rfl ?_ | refine cat_le hA ?_ | refine upd_le hA ?_ | (try cbv))))
      cbv
      refine ⟨(by (subst hA; (try simp only [natCast_eq] at *); (try (simp only [Ar.real, NV.val, Int.ofNat_eq_natCast, Int.toNat_natCast])); first | done | omega | decide | exact inR64 (by omega) (by omega) | (refine ⟨?_, ?_⟩ <;> first | omega | decide | exact inR64 (by omega) (by omega)))), (by clear cl c1 c2 c3 cB cS c6; subst hA; show ((at1 : Int) - 31) ≠ 0; omega), (by (show A.inR .i64 (A.add 31 (A.rem (A.conv .i64 ai) (A.sub (Int.ofNat at1) 31)))); rw [ktr]; clear cl c1 c2 c3 cB cS c6; (subst hA; (try simp only [natCast_eq] at *); (try (simp only [Ar.real, NV.val, Int.ofNat_eq_natCast, Int.toNat_natCast])); first | done | omega | decide | exact inR64 (by omega) (by omega) | (refine ⟨?_, ?_⟩ <;> first | omega | decide | exact inR64 (by omega) (by omega)))), ?_⟩
      refine CS.le hA (c6) [(8, 0), (9, 1), (10, 2)] rfl rfl rfl ?_ ?_ ?_
      · (try cbv) <;> (repeat' (first | exact trivial | exact rfl | apply And.intro | exact fun _ => rfl | (intro _ hle; first | refine chunk_le hA rfl hle rfl ?_ | refine cat_le hA ?_ | refine upd_le hA ?_ | (try cbv)))) <;> (try (subst hA; (try simp only [natCast_eq] at *); (try (simp only [Ar.real, NV.val, Int.ofNat_eq_natCast, Int.toNat_natCast])); first | done | omega | decide | exact inR64 (by omega) (by omega) | (refine ⟨?_, ?_⟩ <;> first | omega | decide | exact inR64 (by omega) (by omega)))) <;> (try first | exact ktr)
      · (try cbv) <;> (repeat' (first | exact trivial | exact rfl | apply And.intro | exact fun _ => rfl | (intro _ hle; first | refine chunk_le hA rfl hle rfl ?_ | refine cat_le hA ?_ | refine upd_le hA ?_ | (try cbv)))) <;> (try first | exact ktr)
      cbv
      by_cases hu4 : us < 4
      · have k1 : A.lt (v 62) 4 = true := by rw [kl4]; exact decide_eq_true hu4
        first | refine testR k1 rfl ?_ | refine testL k1 rfl ?_
        cbv
        refine CS.le hA (cl) [] rfl rfl rfl ?_ ?_ ?_
        · (try cbv) <;> (repeat' (first | exact trivial | exact rfl | apply And.intro | exact fun _ => rfl | (intro _ hle; first | refine chunk_le hA rfl hle rfl ?_ | refine cat_le hA ?_ | refine upd_le hA ?_ | (try cbv)))) <;> (try (subst hA; (try simp only [natCast_eq] at *); (try (simp only [Ar.real, NV.val, Int.ofNat_eq_natCast, Int.toNat_natCast])); first | done | omega | decide | exact inR64 (by omega) (by omega) | (refine ⟨?_, ?_⟩ <;> first | omega | decide | exact inR64 (by omega) (by omega))))
        · (try cbv) <;> (repeat' (first | exact trivial | exact rfl | apply And.intro | exact fun _ => rfl | (intro _ hle; first | refine chunk_le hA rfl hle rfl ?_ | refine cat_le hA ?_ | refine upd_le hA ?_ | (try cbv))))
        cbv
        refine Fin.le hA 0 [] (.bl true) ([]) 100000 rfl rfl rfl ?_ ?_ (by rw [← hK]; exact ⟨rfl, rfl, rfl⟩)
        · (try cbv) <;> (repeat' (first | exact trivial | exact rfl | apply And.intro | exact fun _ => rfl | (intro _ hle; first | refine chunk_le hA rfl hle rfl ?_ | refine cat_le hA ?_ | refine upd_le hA ?_ | (try cbv))))
        · (try cbv) <;> (repeat' (first | exact trivial | exact rfl | apply And.intro | exact fun _ => rfl | (intro _ hle; first | refine chunk_le hA rfl hle rfl ?_ | refine cat_le hA ?_ | refine upd_le hA ?_ | (try cbv))))
      · have k1 : A.lt (v 62) 4 = false := by rw [kl4]; exact decide_eq_false hu4
        obtain ⟨kb, hkb⟩ : ∃ kb, kb = fo.toNat % (8 * us - 31) := ⟨_, rfl⟩
        rw [← hkb] at htl
        have hkb2 : kb + 32 ≤ 8 * us := by have : kb < 8 * us - 31 := by rw [hkb]; exact Nat.mod_lt _ (by omega)
                                           omega
        have hus62 : us ≤ 62 := by rw [hus]; exact Nat.min_le_right _ _
        have k8 : A.mul 8 (A.conv .i64 (v (NV.l 62).val)) = ((8 * us : Nat) : Int) := by
          show A.mul 8 (A.conv .i64 (v 62)) = _
          rw [hv62']
          clear cl c1 c2 c3 cB cS c6 ktr kl4 kg62 k1; subst hA
          show (8 : Int) * IntKind.i64.wrap ((us : Nat) : Int) = _
          rw [show IntKind.i64.wrap ((us : Nat) : Int) = (us : Int) by rw [IntKind.wrap_i64]; omega]
          omega
        have k31 : A.sub ((8 * us : Nat) : Int) 31 = ((8 * us - 31 : Nat) : Int) := by
          clear cl c1 c2 c3 cB cS c6 ktr kl4 kg62 k1 k8; subst hA
          show ((8 * us : Nat) : Int) - 31 = _
          omega
        have kbt : A.rem (A.conv .i64 fo) ((8 * us - 31 : Nat) : Int) = (kb : Int) := by
          clear cl c1 c2 c3 cB cS c6 ktr kl4 kg62 k1 k8; subst hA
          show Int.tmod (IntKind.i64.wrap fo) _ = _
          rw [show IntKind.i64.wrap fo = ((fo.toNat : Nat) : Int) by rw [IntKind.wrap_i64]; omega, hkb]
          exact rem_nat _ _
        have ki1 : A.inR .i64 ((8 * us : Nat) : Int) := by clear cl c1 c2 c3 cB cS c6 ktr kl4 kg62 k1 k8 k31 kbt; subst hA; exact inR64 (by omega) (by omega)
        have ki2 : A.inR .i64 ((8 * us - 31 : Nat) : Int) := by clear cl c1 c2 c3 cB cS c6 ktr kl4 kg62 k1 k8 k31 kbt ki1; subst hA; exact inR64 (by omega) (by omega)
        first | refine testR k1 rfl ?_ | refine testL k1 rfl ?_
        cbv
        first | refine testR kg62 rfl ?_ | refine testL kg62 rfl ?_
        cbv
        refine ⟨(by (show A.inR .i64 (A.mul 8 (A.conv .i64 (v (NV.l 62).val)))); rw [k8]; exact ki1), (by (show A.inR .i64 (A.sub (A.mul 8 (A.conv .i64 (v (NV.l 62).val))) 31)); rw [k8, k31]; exact ki2), (by (show A.ne0 (A.sub (A.mul 8 (A.conv .i64 (v (NV.l 62).val))) 31)); rw [k8, k31]; clear cl c1 c2 c3 cB cS c6 ktr kl4 kg62 k1 k8 k31 kbt ki1; subst hA; show ((8 * us - 31 : Nat) : Int) ≠ 0; omega), ?_⟩
        refine LS.clr [103, 104, 105, 106, 107, 108, 109, 110, 111, 112, 113, 114, 115, 116, 117, 118, 119, 120, 121, 122, 123, 124, 125, 126, 127, 128, 129, 130, 131, 132, 133, 134, 135, 136, 137, 138, 139, 140, 141, 142, 143, 144, 145, 146, 147, 148, 149, 150, 151, 152, 153, 154, 155, 156, 157, 158, 159, 160, 161, 162, 163, 164, 165, 166, 167, 168, 169, 170, 171, 172, 173, 174, 175, 176, 177, 178, 179, 180, 181, 182, 183, 184, 185] ?_
        cbv
        refine LS.le2 hT hA 31 (fun (b : Nat) (ci : Nat → Int) => [(20, .sl 31 1 (.l 0) (.l 64)), (22, .int .i64 (kb : Int)), (23, .int .i64 (b : Int))]) (fun b ci => DHn 8 9 10 3840 d2.S d2.L d2.ar d2.ca ++ [(30, .row 3 1 (.s m) (fun e => [.int .i64 (ss e.val)])), (31, .row 5 1 (.l 64) (fun e => [.int .u8 (ci e.val)]))]) (fun b ci => b ≤ 32 ∧ ∀ j, j < 64 → ci j = ((turn s x kb b j).toNat : Int)) (fun b _ => 32 - b) 0 v [(151, 31)] rfl rfl ?_ ?_ ?_
        · (try cbv) <;> (repeat' (first | exact trivial | exact rfl | apply And.intro | exact fun _ => rfl | (intro _ hle; first | refine chunk_le hA rfl hle rfl ?_ | refine cat_le hA ?_ | refine upd_le hA ?_ | refine int_le ?_ | skip)))
          all_goals first | (show A.rem (A.conv .i64 fo) (A.sub (A.mul 8 (A.conv .i64 (v (NV.l 62).val))) 31) = _; rw [k8, k31]; exact kbt) | (subst hA; (try simp only [natCast_eq] at *); (try (simp only [Ar.real, NV.val, Int.ofNat_eq_natCast, Int.toNat_natCast])); first | done | omega | decide | exact inR64 (by omega) (by omega) | (refine ⟨?_, ?_⟩ <;> first | omega | decide | exact inR64 (by omega) (by omega))) | trace_state
        · exact ⟨by omega, hs⟩
        · intro R hR b ci hp
          cbv
          obtain ⟨hb32, hci⟩ := hp
          refine ⟨fun h3 => ?_, fun h3 => ?_⟩
          · have hlt : b < 32 := by clear hR cl c1 c2 c3 cB cS c6 ktr kl4 kg62 k1 k8 k31 kbt ki1 ki2; subst hA; simp only [Ar.real] at h3; simp at h3; omega
            have hbit : ∀ {c}, A.eq (A.w .and .u32 (A.shr .u32 xi (b : Int)) 1) 1 = c → x.getLsbD b = c := by
              intro c hc
              clear hR cl c1 c2 c3 cB cS c6 ktr kl4 kg62 k1 k8 k31 kbt ki1 ki2
              subst hA
              simp only [Ar.real] at hc
              rw [hx, shr32, _root_.Go.Proofs.YtnjjgipblimbfaaDoor.lit1, and32, and_one] at hc
              rw [← hc]
              simp only [BitVec.getLsbD_ushiftRight, Int.toNat_natCast, Nat.add_zero]
              cases x.getLsbD b <;> rfl
            cbv
            clear cl c1 c2 c3 cB cS c6 ktr kl4 kg62 k1 k8 k31 kbt ki1 ki2 st st2 hlr hss
            refine ⟨(by (subst hA; (try simp only [natCast_eq] at *); (try (simp only [Ar.real, NV.val, Int.ofNat_eq_natCast, Int.toNat_natCast])); first | done | omega | decide | exact inR64 (by omega) (by omega) | (refine ⟨?_, ?_⟩ <;> first | omega | decide | exact inR64 (by omega) (by omega)))), fun h4 => ?_, fun h4 => ?_⟩
            · cbv
              refine DS.run hA hT (by rw [hP]; exact P_mixed) 1 rfl ?_
              cbv
              have hb := hbit h4
              have hR1 : inRange .i64 ((kb : Int) + (b : Int)) := inR64 (by omega) (by omega)
              have hq8 : Int.tdiv ((kb : Int) + (b : Int)) 8 = (((kb + b) / 8 : Nat) : Int) := quo_nat (kb + b) 8
              have hr8 : Int.tmod ((kb : Int) + (b : Int)) 8 = (((kb + b) % 8 : Nat) : Int) := rem_nat (kb + b) 8
              have hq64 : (kb + b) / 8 < 64 := by omega
              obtain ⟨c', hc'⟩ : ∃ c' : Nat → Int, ∀ j, c' j = if j = (kb + b) / 8 then ((turn s x kb b j ^^^ 1#32 <<< ((kb + b) % 8)).toNat : Int) else ci j := ⟨_, fun _ => rfl⟩
              refine ⟨?_, ?_, ?_, ?_, ?_, ?_, ?_, ?_, ?_, ?_, ?_, ?_, hR _ _ _ ⟨b + 1, c', 31, [(31, 31)], rfl, rfl, ?_, ⟨hlt, ?_⟩, (by show 32 - (b + 1) < 32 - b; omega)⟩⟩
              all_goals clear hR
              · subst hA; simp only [Ar.real, NV.val, Int.ofNat_eq_natCast, Int.toNat_natCast]
                exact hR1
              · (subst hA; (try simp only [natCast_eq] at *); (simp only [Ar.real, NV.val, Int.ofNat_eq_natCast, Int.toNat_natCast, hq8, hr8]); first | done | omega | decide | exact inR64 (by omega) (by omega) | (refine ⟨?_, ?_⟩ <;> first | omega | decide | exact inR64 (by omega) (by omega)))
              · subst hA; simp only [Ar.real, NV.val, Int.ofNat_eq_natCast, Int.toNat_natCast]
                exact hR1
              · (subst hA; (try simp only [natCast_eq] at *); (simp only [Ar.real, NV.val, Int.ofNat_eq_natCast, Int.toNat_natCast, hq8, hr8]); first | done | omega | decide | exact inR64 (by omega) (by omega) | (refine ⟨?_, ?_⟩ <;> first | omega | decide | exact inR64 (by omega) (by omega)))
              · (subst hA; (try simp only [natCast_eq] at *); (simp only [Ar.real, NV.val, Int.ofNat_eq_natCast, Int.toNat_natCast, hq8, hr8]); first | done | omega | decide | exact inR64 (by omega) (by omega) | (refine ⟨?_, ?_⟩ <;> first | omega | decide | exact inR64 (by omega) (by omega)))
              · (subst hA; (try simp only [natCast_eq] at *); (simp only [Ar.real, NV.val, Int.ofNat_eq_natCast, Int.toNat_natCast, hq8, hr8]); first | done | omega | decide | exact inR64 (by omega) (by omega) | (refine ⟨?_, ?_⟩ <;> first | omega | decide | exact inR64 (by omega) (by omega)))
              · subst hA; simp only [Ar.real, NV.val, Int.ofNat_eq_natCast, Int.toNat_natCast]
                exact hR1
              · (subst hA; (try simp only [natCast_eq] at *); (simp only [Ar.real, NV.val, Int.ofNat_eq_natCast, Int.toNat_natCast, hq8, hr8]); first | done | omega | decide | exact inR64 (by omega) (by omega) | (refine ⟨?_, ?_⟩ <;> first | omega | decide | exact inR64 (by omega) (by omega)))
              · (subst hA; (try simp only [natCast_eq] at *); (simp only [Ar.real, NV.val, Int.ofNat_eq_natCast, Int.toNat_natCast, hq8, hr8]); first | done | omega | decide | exact inR64 (by omega) (by omega) | (refine ⟨?_, ?_⟩ <;> first | omega | decide | exact inR64 (by omega) (by omega)))
              · (subst hA; (try simp only [natCast_eq] at *); (simp only [Ar.real, NV.val, Int.ofNat_eq_natCast, Int.toNat_natCast, hq8, hr8]); first | done | omega | decide | exact inR64 (by omega) (by omega) | (refine ⟨?_, ?_⟩ <;> first | omega | decide | exact inR64 (by omega) (by omega)))
              · (subst hA; (try simp only [natCast_eq] at *); (simp only [Ar.real, NV.val, Int.ofNat_eq_natCast, Int.toNat_natCast, hq8, hr8]); first | done | omega | decide | exact inR64 (by omega) (by omega) | (refine ⟨?_, ?_⟩ <;> first | omega | decide | exact inR64 (by omega) (by omega)))
              · (subst hA; (try simp only [natCast_eq] at *); (try (simp only [Ar.real, NV.val, Int.ofNat_eq_natCast, Int.toNat_natCast])); first | done | omega | decide | exact inR64 (by omega) (by omega) | (refine ⟨?_, ?_⟩ <;> first | omega | decide | exact inR64 (by omega) (by omega)))
              · have hsel : A.nat (A.quo (A.add (Int.ofNat kb) (Int.ofNat b)) 8) = (kb + b) / 8 := by
                  subst hA; simp only [Ar.real, NV.val, Int.ofNat_eq_natCast, Int.toNat_natCast, hq8]
                have hval : A.w .xor .u8 (ci (A.nat (A.quo (A.add (Int.ofNat kb) (Int.ofNat b)) 8))) (A.shl .u8 1 (A.rem (A.add (Int.ofNat kb) (Int.ofNat b)) 8)) = ((turn s x kb b ((kb + b) / 8) ^^^ 1#32 <<< ((kb + b) % 8)).toNat : Int) := by
                  have hshl := shl8_one _ (Nat.mod_lt (kb + b) (show 0 < 8 by decide))
                  rw [Int.toNat_natCast] at hshl
                  subst hA; simp only [Ar.real, NV.val, Int.ofNat_eq_natCast, Int.toNat_natCast, hq8, hr8]
                  rw [hci _ hq64, hshl]
                  exact xor8 _ _ (htl b _ hq64) (one_shl_lt _ (Nat.mod_lt _ (by decide)))
                (try cbv) <;> (repeat' (first | exact trivial | exact rfl | apply And.intro | exact fun _ => rfl | (intro _ hle; first | refine chunk_le hA rfl hle rfl ?_ | refine cat_le hA ?_ | refine upd_le hA ?_ | (try cbv))))
                all_goals first | (subst hA; (try simp only [natCast_eq] at *); (try (simp only [Ar.real, NV.val, Int.ofNat_eq_natCast, Int.toNat_natCast])); first | done | omega | decide | exact inR64 (by omega) (by omega) | (refine ⟨?_, ?_⟩ <;> first | omega | decide | exact inR64 (by omega) (by omega))) | skip
                all_goals
                  rename_i e
                  rw [hc']
                  by_cases q : e.val = (kb + b) / 8
                  · rw [if_pos q, if_pos (q.trans hsel.symm), q]
                    exact hval.symm
                  · rw [if_neg q, if_neg (fun h => q (h.trans hsel))]
              · intro j hj
                rw [hc', CrcLaw.turn, hb]
                simp only [cond_true]
                by_cases q : j = (kb + b) / 8
                · rw [if_pos q, if_pos q]
                · rw [if_neg q, if_neg q, hci j hj]
            · cbv
              have hb := hbit h4
              refine ⟨(by (subst hA; (try simp only [natCast_eq] at *); (try (simp only [Ar.real, NV.val, Int.ofNat_eq_natCast, Int.toNat_natCast])); first | done | omega | decide | exact inR64 (by omega) (by omega) | (refine ⟨?_, ?_⟩ <;> first | omega | decide | exact inR64 (by omega) (by omega)))), hR _ _ _ ⟨b + 1, ci, 31, [(31, 31)], rfl, rfl, ?_, ⟨hlt, ?_⟩, (by show 32 - (b + 1) < 32 - b; omega)⟩⟩
              · clear hR
                (try cbv) <;> (repeat' (first | exact trivial | exact rfl | apply And.intro | exact fun _ => rfl | (intro _ hle; first | refine chunk_le hA rfl hle rfl ?_ | refine cat_le hA ?_ | refine upd_le hA ?_ | (try cbv))))
                all_goals (subst hA; (try simp only [natCast_eq] at *); (try (simp only [Ar.real, NV.val, Int.ofNat_eq_natCast, Int.toNat_natCast])); first | done | omega | decide | exact inR64 (by omega) (by omega) | (refine ⟨?_, ?_⟩ <;> first | omega | decide | exact inR64 (by omega) (by omega)))
              · intro j hj
                rw [hci j hj, CrcLaw.turn, hb]; rfl
          · have h32 : b = 32 := by clear hR cl c1 c2 c3 cB cS c6 ktr kl4 kg62 k1 k8 k31 kbt ki1 ki2; subst hA; simp only [Ar.real] at h3; simp at h3; omega
            subst h32
            clear hR
            have hmrr : ∀ j, j < i → ∀ x, x < ml j → 0 ≤ mf j x ∧ mf j x ≤ 255 := fun j hj x hx => by
              have h := hlr j hj
              rw [h.1] at hx
              rw [h.2.2 x hx]
              exact (hl j hj).2 x hx
            have hmss : ∀ j, j < i → ml j ≤ 200 := fun j hj => by rw [(hlr j hj).1]; exact (hlr j hj).2.1
            obtain ⟨okw, okf, hop⟩ := damage_more (d2 := flushD (writeD d2 t ci)) (v := ci) (k := kb) hP hfr st2 hL2 har2 rb hmrr hmss hij hi0 hj0 hxz (fun y hy => by rw [← hvS y hy]; exact hs y hy) (by rw [← hus]; exact hkb2) (fun y hy => hci y hy) rfl
            obtain ⟨d3, hd3⟩ : ∃ d3, d3 = writeD d2 t ci := ⟨_, rfl⟩
            rw [← hd3] at okw okf hop
            obtain ⟨d4, hd4⟩ : ∃ d4, d4 = flushD d3 := ⟨_, rfl⟩
            rw [← hd4] at okf hop
            have ho3 : ¬ offD d3 := fun q => by rw [hd3] at q; have q1 : d2.ar = true := q.1; rw [har2] at q1; cases q1
            have c7 := write_all (P := P) (G := Gf fr) (N := 3840) (s := 60) (i := t) (f := ci) hP rfl (by omega) st2.ok ho2 ht60 hd3
            have c8 := flush_all (P := P) (G := Gf fr) (N := 3840) (s := 60) hP rfl (by omega) okw ho3 hd4
            have hij' : t = stN 31 (cons0 4 ml) i0 + j0 := hij
            have hssl : ∀ w, w ≤ i0 → ss w ≤ (t : Int) := fun w hw => by
              have e : ss w = ((stN 31 (cons0 4 ml) w : Nat) : Int) := hss w (by omega)
              have := stN_mono (fi := 31) (nl := cons0 4 ml) hw
              omega
            have hssg : i0 + 1 < m → (t : Int) < ss (i0 + 1) := fun hw => by
              have e : ss (i0 + 1) = ((stN 31 (cons0 4 ml) (i0 + 1) : Nat) : Int) := hss _ hw
              rw [stN_succ] at e
              omega
            have hi0m : i0 < m := by omega
            cbv
            refine ⟨(by (show A.inR .i64 (A.add 31 (A.rem (A.conv .i64 ai) (A.sub (Int.ofNat at1) 31)))); rw [ktr]; clear cl c1 c2 c3 cB cS c6; (subst hA; (try simp only [natCast_eq] at *); (try (simp only [Ar.real, NV.val, Int.ofNat_eq_natCast, Int.toNat_natCast])); first | done | omega | decide | exact inR64 (by omega) (by omega) | (refine ⟨?_, ?_⟩ <;> first | omega | decide | exact inR64 (by omega) (by omega)))), ?_⟩
            refine CS.frz hA [31] (by (try cbv) <;> (repeat' (first | exact trivial | exact rfl | apply And.intro | exact fun _ => rfl | (intro _ hle; first | refine chunk_le hA rfl hle rfl ?_ | refine cat_le hA ?_ | refine upd_le hA ?_ | (try cbv)))); all_goals (subst hA; (try simp only [natCast_eq] at *); (try (simp only [Ar.real, NV.val, Int.ofNat_eq_natCast, Int.toNat_natCast])); first | done | omega | decide | exact inR64 (by omega) (by omega) | (refine ⟨?_, ?_⟩ <;> first | omega | decide | exact inR64 (by omega) (by omega)))) ?_
            cbv
            refine CS.le hA (c7) [(8, 0), (9, 1), (10, 2)] rfl rfl rfl ?_ ?_ ?_
            · (try cbv) <;> (repeat' (first | exact trivial | exact rfl | apply And.intro | exact fun _ => rfl | (intro _ hle; first | refine chunk_le hA rfl hle rfl ?_ | refine cat_le hA ?_ | refine upd_le hA ?_ | (try cbv)))) <;> (try (subst hA; (try simp only [natCast_eq] at *); (try (simp only [Ar.real, NV.val, Int.ofNat_eq_natCast, Int.toNat_natCast])); first | done | omega | decide | exact inR64 (by omega) (by omega) | (refine ⟨?_, ?_⟩ <;> first | omega | decide | exact inR64 (by omega) (by omega)))) <;> (try first | exact ktr)
            · (try cbv) <;> (repeat' (first | exact trivial | exact rfl | apply And.intro | exact fun _ => rfl | (intro _ hle; first | refine chunk_le hA rfl hle rfl ?_ | refine cat_le hA ?_ | refine upd_le hA ?_ | (try cbv)))) <;> (try first | exact ktr)
            cbv
            refine CS.le hA (c8) [(8, 0), (9, 1), (10, 2)] rfl rfl rfl ?_ ?_ ?_
            · (try cbv) <;> (repeat' (first | exact trivial | exact rfl | apply And.intro | exact fun _ => rfl | (intro _ hle; first | refine chunk_le hA rfl hle rfl ?_ | refine cat_le hA ?_ | refine upd_le hA ?_ | (try cbv)))) <;> (try (subst hA; (try simp only [natCast_eq] at *); (try (simp only [Ar.real, NV.val, Int.ofNat_eq_natCast, Int.toNat_natCast])); first | done | omega | decide | exact inR64 (by omega) (by omega) | (refine ⟨?_, ?_⟩ <;> first | omega | decide | exact inR64 (by omega) (by omega))))
            · (try cbv) <;> (repeat' (first | exact trivial | exact rfl | apply And.intro | exact fun _ => rfl | (intro _ hle; first | refine chunk_le hA rfl hle rfl ?_ | refine cat_le hA ?_ | refine upd_le hA ?_ | (try cbv))))
            cbv
            refine LS.le hT hA 31 (fun (w : Nat) => [(24, .int .i64 (w : Int))]) (fun _ => DHn 8 9 10 3840 d4.S d4.L d4.ar d4.ca ++ [(30, .row 3 1 (.s m) (fun e => [.int .i64 (ss e.val)]))]) (fun w => w ≤ i0 + 1) (fun w => i0 + 2 - w) 0 [] rfl rfl ?_ ?_ ?_
            · (try cbv) <;> (repeat' (first | exact trivial | exact rfl | apply And.intro | exact fun _ => rfl | (intro _ hle; first | refine chunk_le hA rfl hle rfl ?_ | refine cat_le hA ?_ | refine upd_le hA ?_ | refine int_le ?_ | skip)))
              all_goals first | (subst hA; (try simp only [natCast_eq] at *); (try (simp only [Ar.real, NV.val, Int.ofNat_eq_natCast, Int.toNat_natCast])); first | done | omega | decide | exact inR64 (by omega) (by omega) | (refine ⟨?_, ?_⟩ <;> first | omega | decide | exact inR64 (by omega) (by omega))) | trace_state
            · exact Nat.zero_le _
            · intro R hR w hw
              have kaw : A.nat (Int.ofNat w) = w := by subst hA; rfl
              by_cases qw : w ≤ i0
              · have k1' : A.lt (Int.ofNat w) (A.i2 m) = true := by clear hR cl c1 c2 c3 cB cS c6 ktr; subst hA; simp [Ar.real]; omega
                have k2' : A.le (ss (A.nat (Int.ofNat w))) (A.add 31 (A.rem (A.conv .i64 ai) (A.sub (Int.ofNat at1) 31))) = true := by
                  rw [ktr, kaw]
                  have := hssl w qw
                  clear hR cl c1 c2 c3 cB cS c6 ktr; subst hA; simp [Ar.real]; omega
                cbv
                first | refine testR k1' rfl ?_ | refine testL k1' rfl ?_
                cbv
                refine ⟨(by (subst hA; (try simp only [natCast_eq] at *); (try (simp only [Ar.real, NV.val, Int.ofNat_eq_natCast, Int.toNat_natCast])); first | done | omega | decide | exact inR64 (by omega) (by omega) | (refine ⟨?_, ?_⟩ <;> first | omega | decide | exact inR64 (by omega) (by omega)))), (by (subst hA; (try simp only [natCast_eq] at *); (try (simp only [Ar.real, NV.val, Int.ofNat_eq_natCast, Int.toNat_natCast])); first | done | omega | decide | exact inR64 (by omega) (by omega) | (refine ⟨?_, ?_⟩ <;> first | omega | decide | exact inR64 (by omega) (by omega)))), (by (show A.inR .i64 (A.add 31 (A.rem (A.conv .i64 ai) (A.sub (Int.ofNat at1) 31)))); rw [ktr]; clear cl c1 c2 c3 cB cS c6; (subst hA; (try simp only [natCast_eq] at *); (try (simp only [Ar.real, NV.val, Int.ofNat_eq_natCast, Int.toNat_natCast])); first | done | omega | decide | exact inR64 (by omega) (by omega) | (refine ⟨?_, ?_⟩ <;> first | omega | decide | exact inR64 (by omega) (by omega)))), ?_⟩
                first | refine testR k2' rfl ?_ | refine testL k2' rfl ?_
                cbv
                refine ⟨(by (subst hA; (try simp only [natCast_eq] at *); (try (simp only [Ar.real, NV.val, Int.ofNat_eq_natCast, Int.toNat_natCast])); first | done | omega | decide | exact inR64 (by omega) (by omega) | (refine ⟨?_, ?_⟩ <;> first | omega | decide | exact inR64 (by omega) (by omega)))), hR _ _ ⟨w + 1, 31, [], rfl, rfl, ?_, (by omega), (by show i0 + 2 - (w + 1) < i0 + 2 - w; omega)⟩⟩
                clear hR
                (try cbv) <;> (repeat' (first | exact trivial | exact rfl | apply And.intro | exact fun _ => rfl | (intro _ hle; first | refine chunk_le hA rfl hle rfl ?_ | refine cat_le hA ?_ | refine upd_le hA ?_ | refine int_le ?_ | skip)))
                all_goals (subst hA; (try simp only [natCast_eq] at *); (try (simp only [Ar.real, NV.val, Int.ofNat_eq_natCast, Int.toNat_natCast])); first | done | omega | decide | exact inR64 (by omega) (by omega) | (refine ⟨?_, ?_⟩ <;> first | omega | decide | exact inR64 (by omega) (by omega)))
              · have hwi : w = i0 + 1 := by omega
                by_cases qm : i0 + 1 < m
                · have k1' : A.lt (Int.ofNat w) (A.i2 m) = true := by clear hR cl c1 c2 c3 cB cS c6 ktr; subst hA; simp [Ar.real]; omega
                  have k2' : A.le (ss (A.nat (Int.ofNat w))) (A.add 31 (A.rem (A.conv .i64 ai) (A.sub (Int.ofNat at1) 31))) = false := by
                    rw [ktr, kaw, hwi]
                    have := hssg qm
                    clear hR cl c1 c2 c3 cB cS c6 ktr; subst hA; simp [Ar.real]; omega
                  clear hR
                  cbv
                  first | refine testR k1' rfl ?_ | refine testL k1' rfl ?_
                  cbv
                  refine ⟨(by (subst hA; (try simp only [natCast_eq] at *); (try (simp only [Ar.real, NV.val, Int.ofNat_eq_natCast, Int.toNat_natCast])); first | done | omega | decide | exact inR64 (by omega) (by omega) | (refine ⟨?_, ?_⟩ <;> first | omega | decide | exact inR64 (by omega) (by omega)))), (by (subst hA; (try simp only [natCast_eq] at *); (try (simp only [Ar.real, NV.val, Int.ofNat_eq_natCast, Int.toNat_natCast])); first | done | omega | decide | exact inR64 (by omega) (by omega) | (refine ⟨?_, ?_⟩ <;> first | omega | decide | exact inR64 (by omega) (by omega)))), (by (show A.inR .i64 (A.add 31 (A.rem (A.conv .i64 ai) (A.sub (Int.ofNat at1) 31)))); rw [ktr]; clear cl c1 c2 c3 cB cS c6; (subst hA; (try simp only [natCast_eq] at *); (try (simp only [Ar.real, NV.val, Int.ofNat_eq_natCast, Int.toNat_natCast])); first | done | omega | decide | exact inR64 (by omega) (by omega) | (refine ⟨?_, ?_⟩ <;> first | omega | decide | exact inR64 (by omega) (by omega)))), ?_⟩
                  first | refine testR k2' rfl ?_ | refine testL k2' rfl ?_
                  cbv
                  rcases hop with ⟨hz, cO⟩ | ⟨d5, last, kc, w0, wf, gl, nl, gf, nf, hkc, hw0, hwf, hnm, hkc4, cO, cb, cn⟩
                  · have kw : A.eq (Int.ofNat w) 1 = true := by clear cl c1 c2 c3 cB cS c6 ktr cO; subst hA; simp [Ar.real]; omega
                    refine CS.le hA (cO) [(8, 0), (9, 1), (10, 2)] rfl rfl rfl ?_ ?_ ?_
                    · (try cbv) <;> (repeat' (first | exact trivial | exact rfl | apply And.intro | exact fun _ => rfl | (intro _ hle; first | refine chunk_le hA rfl hle rfl ?_ | refine cat_le hA ?_ | refine upd_le hA ?_ | (try cbv)))) <;> (try (subst hA; (try simp only [natCast_eq] at *); (try (simp only [Ar.real, NV.val, Int.ofNat_eq_natCast, Int.toNat_natCast])); first | done | omega | decide | exact inR64 (by omega) (by omega) | (refine ⟨?_, ?_⟩ <;> first | omega | decide | exact inR64 (by omega) (by omega))))
                    · (try cbv) <;> (repeat' (first | exact trivial | exact rfl | apply And.intro | exact fun _ => rfl | (intro _ hle; first | refine chunk_le hA rfl hle rfl ?_ | refine cat_le hA ?_ | refine upd_le hA ?_ | (try cbv))))
                    cbv
                    first | refine testR kw rfl ?_ | refine testL kw rfl ?_
                    cbv
                    refine CS.le hA (cl) [] rfl rfl rfl ?_ ?_ ?_
                    · (try cbv) <;> (repeat' (first | exact trivial | exact rfl | apply And.intro | exact fun _ => rfl | (intro _ hle; first | refine chunk_le hA rfl hle rfl ?_ | refine cat_le hA ?_ | refine upd_le hA ?_ | (try cbv)))) <;> (try (subst hA; (try simp only [natCast_eq] at *); (try (simp only [Ar.real, NV.val, Int.ofNat_eq_natCast, Int.toNat_natCast])); first | done | omega | decide | exact inR64 (by omega) (by omega) | (refine ⟨?_, ?_⟩ <;> first | omega | decide | exact inR64 (by omega) (by omega))))
                    · (try cbv) <;> (repeat' (first | exact trivial | exact rfl | apply And.intro | exact fun _ => rfl | (intro _ hle; first | refine chunk_le hA rfl hle rfl ?_ | refine cat_le hA ?_ | refine upd_le hA ?_ | (try cbv))))
                    cbv
                    refine Fin.le hA 0 [] (.bl true) ([]) 100000 rfl rfl rfl ?_ ?_ (by rw [← hK]; exact ⟨rfl, rfl, rfl⟩)
                    · (try cbv) <;> (repeat' (first | exact trivial | exact rfl | apply And.intro | exact fun _ => rfl | (intro _ hle; first | refine chunk_le hA rfl hle rfl ?_ | refine cat_le hA ?_ | refine upd_le hA ?_ | (try cbv))))
                    · (try cbv) <;> (repeat' (first | exact trivial | exact rfl | apply And.intro | exact fun _ => rfl | (intro _ hle; first | refine chunk_le hA rfl hle rfl ?_ | refine cat_le hA ?_ | refine upd_le hA ?_ | (try cbv))))
                  · have kw : A.eq (Int.ofNat w) 1 = false := by clear cl c1 c2 c3 cB cS c6 ktr cO; subst hA; simp [Ar.real]; omega
                    have hsm2 := st2.small
                    have hnll : ∀ j, j < kc → nl j = ll j ∧ ∀ y, y < nl j → nf j y = lf j y ∧ 0 ≤ nf j y ∧ nf j y < 256 := fun j hj => by
                      have h1 := hnm j hj
                      have h2 := hlr j (by omega)
                      have e1 : nl j = ll j := h1.1.trans h2.1
                      refine ⟨e1, fun y hy => ?_⟩
                      have e2 : nf j y = lf j y := (h1.2 y hy).trans (h2.2.2 y (by omega))
                      have := (hl j (by omega)).2 y (by omega)
                      rw [e2]
                      exact ⟨rfl, by omega, by omega⟩
                    have k3 : Ar.real.eqL (Ar.real.bytes w0 wf) [98, 97, 115, 101] = true := base_bytes hw0 (by rw [hwf 0 (by omega), hbb]; rfl) (by rw [hwf 1 (by omega), hbb]; rfl) (by rw [hwf 2 (by omega), hbb]; rfl) (by rw [hwf 3 (by omega), hbb]; rfl)
                    have k3' : A.eqL (A.bytes w0 (byteAt fun e => [SV.int IntKind.u8 (wf e.val)])) [98, 97, 115, 101] = true := by subst hA; exact k3
                    have ca := sameall_fn (P := P) (G := Gf fr) (n := kc) (m := kc) (lf := nl) (lg := ll) (f := nf) (g := lf) hP rfl (by omega) hnll
                    have kwk : A.nat (A.sub (Int.ofNat w) 2) = kc := by clear cl c1 c2 c3 cB cS c6 ktr cO cb cn ca; subst hA; show ((w : Int) - 2).toNat = kc; omega
                    clear hnll hnm k3
                    refine CS.le hA (cO) [(8, 0), (9, 1), (10, 2)] rfl rfl rfl ?_ ?_ ?_
                    · (try cbv) <;> (repeat' (first | exact trivial | exact rfl | apply And.intro | exact fun _ => rfl | (intro _ hle; first | refine chunk_le hA rfl hle rfl ?_ | refine cat_le hA ?_ | refine upd_le hA ?_ | (try cbv)))) <;> (try (subst hA; (try simp only [natCast_eq] at *); (try (simp only [Ar.real, NV.val, Int.ofNat_eq_natCast, Int.toNat_natCast])); first | done | omega | decide | exact inR64 (by omega) (by omega) | (refine ⟨?_, ?_⟩ <;> first | omega | decide | exact inR64 (by omega) (by omega))))
                    · (try cbv) <;> (repeat' (first | exact trivial | exact rfl | apply And.intro | exact fun _ => rfl | (intro _ hle; first | refine chunk_le hA rfl hle rfl ?_ | refine cat_le hA ?_ | refine upd_le hA ?_ | (try cbv))))
                    cbv
                    first | refine testR kw rfl ?_ | refine testL kw rfl ?_
                    cbv
                    refine DS.runK hA hT (by rw [hP]; exact P_mixed) 1100 rfl ?_
                    cbv
                    refine CD.pass hA (cb) [(8, 0), (9, 1), (10, 2), (49, 3), (50, 4)] [] rfl ⟨rfl, rfl, rfl, rfl, ?_, ?_⟩ rfl (.inl rfl) ?_
                    · (try cbv) <;> (repeat' (first | exact trivial | exact rfl | apply And.intro | exact fun _ => rfl | (intro _ hle; first | refine chunk_le hA rfl hle rfl ?_ | refine cat_le hA ?_ | refine upd_le hA ?_ | (try cbv)))) <;> (try (subst hA; (try simp only [natCast_eq] at *); (try (simp only [Ar.real, NV.val, Int.ofNat_eq_natCast, Int.toNat_natCast])); first | done | omega | decide | exact inR64 (by omega) (by omega) | (refine ⟨?_, ?_⟩ <;> first | omega | decide | exact inR64 (by omega) (by omega))))
                    · (try cbv) <;> (repeat' (first | exact trivial | exact rfl | apply And.intro | exact fun _ => rfl | (intro _ hle; first | refine chunk_le hA rfl hle rfl ?_ | refine cat_le hA ?_ | refine upd_le hA ?_ | (try cbv))))
                    cbv
                    refine ⟨fun e _ => rfl, ?_⟩
                    first | refine testR k3' rfl ?_ | refine testL k3' rfl ?_
                    cbv
                    refine CD.pass hA (cn) [(8, 0), (9, 1), (10, 2), (49, 3), (50, 4)] [] rfl ⟨rfl, rfl, rfl, rfl, ?_, ?_⟩ rfl (.inl rfl) ?_
                    · (try cbv) <;> (repeat' (first | exact trivial | exact rfl | apply And.intro | exact fun _ => rfl | (intro _ hle; first | refine chunk_le hA rfl hle rfl ?_ | refine cat_le hA ?_ | refine upd_le hA ?_ | (try cbv)))) <;> (try (subst hA; (try simp only [natCast_eq] at *); (try (simp only [Ar.real, NV.val, Int.ofNat_eq_natCast, Int.toNat_natCast])); first | done | omega | decide | exact inR64 (by omega) (by omega) | (refine ⟨?_, ?_⟩ <;> first | omega | decide | exact inR64 (by omega) (by omega))))
                    · (try cbv) <;> (repeat' (first | exact trivial | exact rfl | apply And.intro | exact fun _ => rfl | (intro _ hle; first | refine chunk_le hA rfl hle rfl ?_ | refine cat_le hA ?_ | refine upd_le hA ?_ | (try cbv))))
                    cbv
                    have kwk2 : A.subN (A.nat (A.sub (Int.ofNat w) 2)) 0 = kc := by rw [kwk]; clear cl c1 c2 c3 cB cS c6 ktr cO cb cn ca kwk kw k3'; subst hA; rfl
                    refine ⟨(by (subst hA; (try simp only [natCast_eq] at *); (try (simp only [Ar.real, NV.val, Int.ofNat_eq_natCast, Int.toNat_natCast])); first | done | omega | decide | exact inR64 (by omega) (by omega) | (refine ⟨?_, ?_⟩ <;> first | omega | decide | exact inR64 (by omega) (by omega)))), ⟨(by (subst hA; (try simp only [natCast_eq] at *); (try (simp only [Ar.real, NV.val, Int.ofNat_eq_natCast, Int.toNat_natCast])); first | done | omega | decide | exact inR64 (by omega) (by omega) | (refine ⟨?_, ?_⟩ <;> first | omega | decide | exact inR64 (by omega) (by omega)))), (by (subst hA; (try simp only [natCast_eq] at *); (try (simp only [Ar.real, NV.val, Int.ofNat_eq_natCast, Int.toNat_natCast])); first | done | omega | decide | exact inR64 (by omega) (by omega) | (refine ⟨?_, ?_⟩ <;> first | omega | decide | exact inR64 (by omega) (by omega)))), (by (subst hA; (try simp only [natCast_eq] at *); (try (simp only [Ar.real, NV.val, Int.ofNat_eq_natCast, Int.toNat_natCast])); first | done | omega | decide | exact inR64 (by omega) (by omega) | (refine ⟨?_, ?_⟩ <;> first | omega | decide | exact inR64 (by omega) (by omega))))⟩, ?_⟩
                    refine CD.pass hA (ca) [] [] rfl ⟨rfl, rfl, rfl, rfl, ?_, ?_⟩ rfl (.inl rfl) ?_
                    · (try cbv) <;> (repeat' (first | exact trivial | exact rfl | apply And.intro | exact fun _ => rfl | (intro _ hle; first | refine chunk_le hA rfl hle rfl ?_ | refine cat_le hA ?_ | refine upd_le hA ?_ | (try cbv)))) <;> (try (subst hA; (try simp only [natCast_eq] at *); (try (simp only [Ar.real, NV.val, Int.ofNat_eq_natCast, Int.toNat_natCast])); first | done | omega | decide | exact inR64 (by omega) (by omega) | (refine ⟨?_, ?_⟩ <;> first | omega | decide | exact inR64 (by omega) (by omega)))) <;> (try first | exact kwk2 | exact kwk2.symm)
                    · (try cbv) <;> (repeat' (first | exact trivial | exact rfl | apply And.intro | exact fun _ => rfl | (intro _ hle; first | refine chunk_le hA rfl hle rfl ?_ | refine cat_le hA ?_ | refine upd_le hA ?_ | (try cbv)))) <;> (try first | exact kwk2 | exact kwk2.symm)
                    cbv
                    refine CD.pass hA (cl) [] [] rfl ⟨rfl, rfl, rfl, rfl, ?_, ?_⟩ rfl (.inl rfl) ?_
                    · (try cbv) <;> (repeat' (first | exact trivial | exact rfl | apply And.intro | exact fun _ => rfl | (intro _ hle; first | refine chunk_le hA rfl hle rfl ?_ | refine cat_le hA ?_ | refine upd_le hA ?_ | (try cbv)))) <;> (try (subst hA; (try simp only [natCast_eq] at *); (try (simp only [Ar.real, NV.val, Int.ofNat_eq_natCast, Int.toNat_natCast])); first | done | omega | decide | exact inR64 (by omega) (by omega) | (refine ⟨?_, ?_⟩ <;> first | omega | decide | exact inR64 (by omega) (by omega))))
                    · (try cbv) <;> (repeat' (first | exact trivial | exact rfl | apply And.intro | exact fun _ => rfl | (intro _ hle; first | refine chunk_le hA rfl hle rfl ?_ | refine cat_le hA ?_ | refine upd_le hA ?_ | (try cbv))))
                    cbv
                    refine DF.fin (by kernel_rfl) (by kernel_rfl) ?_
                    cbv
                    refine Fin.le hA 0 [] (.bl true) ([]) 100000 rfl rfl rfl ?_ ?_ (by rw [← hK]; exact ⟨rfl, rfl, rfl⟩)
                    · (try cbv) <;> (repeat' (first | exact trivial | exact rfl | apply And.intro | exact fun _ => rfl | (intro _ hle; first | refine chunk_le hA rfl hle rfl ?_ | refine cat_le hA ?_ | refine upd_le hA ?_ | (try cbv))))
                    · (try cbv) <;> (repeat' (first | exact trivial | exact rfl | apply And.intro | exact fun _ => rfl | (intro _ hle; first | refine chunk_le hA rfl hle rfl ?_ | refine cat_le hA ?_ | refine upd_le hA ?_ | (try cbv))))
                · have k1' : A.lt (Int.ofNat w) (A.i2 m) = false := by clear hR cl c1 c2 c3 cB cS c6 ktr; subst hA; simp [Ar.real]; omega
                  clear hR
                  cbv
                  first | refine testR k1' rfl ?_ | refine testL k1' rfl ?_
                  cbv
                  rcases hop with ⟨hz, cO⟩ | ⟨d5, last, kc, w0, wf, gl, nl, gf, nf, hkc, hw0, hwf, hnm, hkc4, cO, cb, cn⟩
                  · have kw : A.eq (Int.ofNat w) 1 = true := by clear cl c1 c2 c3 cB cS c6 ktr cO; subst hA; simp [Ar.real]; omega
                    refine CS.le hA (cO) [(8, 0), (9, 1), (10, 2)] rfl rfl rfl ?_ ?_ ?_
                    · (try cbv) <;> (repeat' (first | exact trivial | exact rfl | apply And.intro | exact fun _ => rfl | (intro _ hle; first | refine chunk_le hA rfl hle rfl ?_ | refine cat_le hA ?_ | refine upd_le hA ?_ | (try cbv)))) <;> (try (subst hA; (try simp only [natCast_eq] at *); (try (simp only [Ar.real, NV.val, Int.ofNat_eq_natCast, Int.toNat_natCast])); first | done | omega | decide | exact inR64 (by omega) (by omega) | (refine ⟨?_, ?_⟩ <;> first | omega | decide | exact inR64 (by omega) (by omega))))
                    · (try cbv) <;> (repeat' (first | exact trivial | exact rfl | apply And.intro | exact fun _ => rfl | (intro _ hle; first | refine chunk_le hA rfl hle rfl ?_ | refine cat_le hA ?_ | refine upd_le hA ?_ | (try cbv))))
                    cbv
                    first | refine testR kw rfl ?_ | refine testL kw rfl ?_
                    cbv
                    refine CS.le hA (cl) [] rfl rfl rfl ?_ ?_ ?_
                    · (try cbv) <;> (repeat' (first | exact trivial | exact rfl | apply And.intro | exact fun _ => rfl | (intro _ hle; first | refine chunk_le hA rfl hle rfl ?_ | refine cat_le hA ?_ | refine upd_le hA ?_ | (try cbv)))) <;> (try (subst hA; (try simp only [natCast_eq] at *); (try (simp only [Ar.real, NV.val, Int.ofNat_eq_natCast, Int.toNat_natCast])); first | done | omega | decide | exact inR64 (by omega) (by omega) | (refine ⟨?_, ?_⟩ <;> first | omega | decide | exact inR64 (by omega) (by omega))))
                    · (try cbv) <;> (repeat' (first | exact trivial | exact rfl | apply And.intro | exact fun _ => rfl | (intro _ hle; first | refine chunk_le hA rfl hle rfl ?_ | refine cat_le hA ?_ | refine upd_le hA ?_ | (try cbv))))
                    cbv
                    refine Fin.le hA 0 [] (.bl true) ([]) 100000 rfl rfl rfl ?_ ?_ (by rw [← hK]; exact ⟨rfl, rfl, rfl⟩)
                    · (try cbv) <;> (repeat' (first | exact trivial | exact rfl | apply And.intro | exact fun _ => rfl | (intro _ hle; first | refine chunk_le hA rfl hle rfl ?_ | refine cat_le hA ?_ | refine upd_le hA ?_ | (try cbv))))
                    · (try cbv) <;> (repeat' (first | exact trivial | exact rfl | apply And.intro | exact fun _ => rfl | (intro _ hle; first | refine chunk_le hA rfl hle rfl ?_ | refine cat_le hA ?_ | refine upd_le hA ?_ | (try cbv))))
                  · have kw : A.eq (Int.ofNat w) 1 = false := by clear cl c1 c2 c3 cB cS c6 ktr cO; subst hA; simp [Ar.real]; omega
                    have hsm2 := st2.small
                    have hnll : ∀ j, j < kc → nl j = ll j ∧ ∀ y, y < nl j → nf j y = lf j y ∧ 0 ≤ nf j y ∧ nf j y < 256 := fun j hj => by
                      have h1 := hnm j hj
                      have h2 := hlr j (by omega)
                      have e1 : nl j = ll j := h1.1.trans h2.1
                      refine ⟨e1, fun y hy => ?_⟩
                      have e2 : nf j y = lf j y := (h1.2 y hy).trans (h2.2.2 y (by omega))
                      have := (hl j (by omega)).2 y (by omega)
                      rw [e2]
                      exact ⟨rfl, by omega, by omega⟩
                    have k3 : Ar.real.eqL (Ar.real.bytes w0 wf) [98, 97, 115, 101] = true := base_bytes hw0 (by rw [hwf 0 (by omega), hbb]; rfl) (by rw [hwf 1 (by omega), hbb]; rfl) (by rw [hwf 2 (by omega), hbb]; rfl) (by rw [hwf 3 (by omega), hbb]; rfl)
                    have k3' : A.eqL (A.bytes w0 (byteAt fun e => [SV.int IntKind.u8 (wf e.val)])) [98, 97, 115, 101] = true := by subst hA; exact k3
                    have ca := sameall_fn (P := P) (G := Gf fr) (n := kc) (m := kc) (lf := nl) (lg := ll) (f := nf) (g := lf) hP rfl (by omega) hnll
                    have kwk : A.nat (A.sub (Int.ofNat w) 2) = kc := by clear cl c1 c2 c3 cB cS c6 ktr cO cb cn ca; subst hA; show ((w : Int) - 2).toNat = kc; omega
                    clear hnll hnm k3
                    refine CS.le hA (cO) [(8, 0), (9, 1), (10, 2)] rfl rfl rfl ?_ ?_ ?_
                    · (try cbv) <;> (repeat' (first | exact trivial | exact rfl | apply And.intro | exact fun _ => rfl | (intro _ hle; first | refine chunk_le hA rfl hle rfl ?_ | refine cat_le hA ?_ | refine upd_le hA ?_ | (try cbv)))) <;> (try (subst hA; (try simp only [natCast_eq] at *); (try (simp only [Ar.real, NV.val, Int.ofNat_eq_natCast, Int.toNat_natCast])); first | done | omega | decide | exact inR64 (by omega) (by omega) | (refine ⟨?_, ?_⟩ <;> first | omega | decide | exact inR64 (by omega) (by omega))))
                    · (try cbv) <;> (repeat' (first | exact trivial | exact rfl | apply And.intro | exact fun _ => rfl | (intro _ hle; first | refine chunk_le hA rfl hle rfl ?_ | refine cat_le hA ?_ | refine upd_le hA ?_ | (try cbv))))
                    cbv
                    first | refine testR kw rfl ?_ | refine testL kw rfl ?_
                    cbv
                    refine DS.runK hA hT (by rw [hP]; exact P_mixed) 1100 rfl ?_
                    cbv
                    refine CD.pass hA (cb) [(8, 0), (9, 1), (10, 2), (41, 3), (42, 4)] [] rfl ⟨rfl, rfl, rfl, rfl, ?_, ?_⟩ rfl (.inl rfl) ?_
                    · (try cbv) <;> (repeat' (first | exact trivial | exact rfl | apply And.intro | exact fun _ => rfl | (intro _ hle; first | refine chunk_le hA rfl hle rfl ?_ | refine cat_le hA ?_ | refine upd_le hA ?_ | (try cbv)))) <;> (try (subst hA; (try simp only [natCast_eq] at *); (try (simp only [Ar.real, NV.val, Int.ofNat_eq_natCast, Int.toNat_natCast])); first | done | omega | decide | exact inR64 (by omega) (by omega) | (refine ⟨?_, ?_⟩ <;> first | omega | decide | exact inR64 (by omega) (by omega))))
                    · (try cbv) <;> (repeat' (first | exact trivial | exact rfl | apply And.intro | exact fun _ => rfl | (intro _ hle; first | refine chunk_le hA rfl hle rfl ?_ | refine cat_le hA ?_ | refine upd_le hA ?_ | (try cbv))))
                    cbv
                    refine ⟨fun e _ => rfl, ?_⟩
                    first | refine testR k3' rfl ?_ | refine testL k3' rfl ?_
                    cbv
                    refine CD.pass hA (cn) [(8, 0), (9, 1), (10, 2), (41, 3), (42, 4)] [] rfl ⟨rfl, rfl, rfl, rfl, ?_, ?_⟩ rfl (.inl rfl) ?_
                    · (try cbv) <;> (repeat' (first | exact trivial | exact rfl | apply And.intro | exact fun _ => rfl | (intro _ hle; first | refine chunk_le hA rfl hle rfl ?_ | refine cat_le hA ?_ | refine upd_le hA ?_ | (try cbv)))) <;> (try (subst hA; (try simp only [natCast_eq] at *); (try (simp only [Ar.real, NV.val, Int.ofNat_eq_natCast, Int.toNat_natCast])); first | done | omega | decide | exact inR64 (by omega) (by omega) | (refine ⟨?_, ?_⟩ <;> first | omega | decide | exact inR64 (by omega) (by omega))))
                    · (try cbv) <;> (repeat' (first | exact trivial | exact rfl | apply And.intro | exact fun _ => rfl | (intro _ hle; first | refine chunk_le hA rfl hle rfl ?_ | refine cat_le hA ?_ | refine upd_le hA ?_ | (try cbv))))
                    cbv
                    have kwk2 : A.subN (A.nat (A.sub (Int.ofNat w) 2)) 0 = kc := by rw [kwk]; clear cl c1 c2 c3 cB cS c6 ktr cO cb cn ca kwk kw k3'; subst hA; rfl
                    refine ⟨(by (subst hA; (try simp only [natCast_eq] at *); (try (simp only [Ar.real, NV.val, Int.ofNat_eq_natCast, Int.toNat_natCast])); first | done | omega | decide | exact inR64 (by omega) (by omega) | (refine ⟨?_, ?_⟩ <;> first | omega | decide | exact inR64 (by omega) (by omega)))), ⟨(by (subst hA; (try simp only [natCast_eq] at *); (try (simp only [Ar.real, NV.val, Int.ofNat_eq_natCast, Int.toNat_natCast])); first | done | omega | decide | exact inR64 (by omega) (by omega) | (refine ⟨?_, ?_⟩ <;> first | omega | decide | exact inR64 (by omega) (by omega)))), (by (subst hA; (try simp only [natCast_eq] at *); (try (simp only [Ar.real, NV.val, Int.ofNat_eq_natCast, Int.toNat_natCast])); first | done | omega | decide | exact inR64 (by omega) (by omega) | (refine ⟨?_, ?_⟩ <;> first | omega | decide | exact inR64 (by omega) (by omega)))), (by (subst hA; (try simp only [natCast_eq] at *); (try (simp only [Ar.real, NV.val, Int.ofNat_eq_natCast, Int.toNat_natCast])); first | done | omega | decide | exact inR64 (by omega) (by omega) | (refine ⟨?_, ?_⟩ <;> first | omega | decide | exact inR64 (by omega) (by omega))))⟩, ?_⟩
                    refine CD.pass hA (ca) [] [] rfl ⟨rfl, rfl, rfl, rfl, ?_, ?_⟩ rfl (.inl rfl) ?_
                    · (try cbv) <;> (repeat' (first | exact trivial | exact rfl | apply And.intro | exact fun _ => rfl | (intro _ hle; first | refine chunk_le hA rfl hle rfl ?_ | refine cat_le hA ?_ | refine upd_le hA ?_ | (try cbv)))) <;> (try (subst hA; (try simp only [natCast_eq] at *); (try (simp only [Ar.real, NV.val, Int.ofNat_eq_natCast, Int.toNat_natCast])); first | done | omega | decide | exact inR64 (by omega) (by omega) | (refine ⟨?_, ?_⟩ <;> first | omega | decide | exact inR64 (by omega) (by omega)))) <;> (try first | exact kwk2 | exact kwk2.symm)
                    · (try cbv) <;> (repeat' (first | exact trivial | exact rfl | apply And.intro | exact fun _ => rfl | (intro _ hle; first | refine chunk_le hA rfl hle rfl ?_ | refine cat_le hA ?_ | refine upd_le hA ?_ | (try cbv)))) <;> (try first | exact kwk2 | exact kwk2.symm)
                    cbv
                    refine CD.pass hA (cl) [] [] rfl ⟨rfl, rfl, rfl, rfl, ?_, ?_⟩ rfl (.inl rfl) ?_
                    · (try cbv) <;> (repeat' (first | exact trivial | exact rfl | apply And.intro | exact fun _ => rfl | (intro _ hle; first | refine chunk_le hA rfl hle rfl ?_ | refine cat_le hA ?_ | refine upd_le hA ?_ | (try cbv)))) <;> (try (subst hA; (try simp only [natCast_eq] at *); (try (simp only [Ar.real, NV.val, Int.ofNat_eq_natCast, Int.toNat_natCast])); first | done | omega | decide | exact inR64 (by omega) (by omega) | (refine ⟨?_, ?_⟩ <;> first | omega | decide | exact inR64 (by omega) (by omega))))
                    · (try cbv) <;> (repeat' (first | exact trivial | exact rfl | apply And.intro | exact fun _ => rfl | (intro _ hle; first | refine chunk_le hA rfl hle rfl ?_ | refine cat_le hA ?_ | refine upd_le hA ?_ | (try cbv))))
                    cbv
                    refine DF.fin (by kernel_rfl) (by kernel_rfl) ?_
                    cbv
                    refine Fin.le hA 0 [] (.bl true) ([]) 100000 rfl rfl rfl ?_ ?_ (by rw [← hK]; exact ⟨rfl, rfl, rfl⟩)
                    · (try cbv) <;> (repeat' (first | exact trivial | exact rfl | apply And.intro | exact fun _ => rfl | (intro _ hle; first | refine chunk_le hA rfl hle rfl ?_ | refine cat_le hA ?_ | refine upd_le hA ?_ | (try cbv))))
                    · (try cbv) <;> (repeat' (first | exact trivial | exact rfl | apply And.intro | exact fun _ => rfl | (intro _ hle; first | refine chunk_le hA rfl hle rfl ?_ | refine cat_le hA ?_ | refine upd_le hA ?_ | (try cbv))))
end Dam
end Go.Proofs.YtnjjgipblimbfaaDoor.Dsk
namespace Go.Proofs.YtnjjgipblimbfaaDoor.Dsk
open Go.Eng Go.RowKit
set_option maxRecDepth 100000
variable {W : World} {v0 v1 v2 v3 v4 : Value}
theorem damage_at (h : Lib.TabIs Tryd.prog W "copse/crc.four" .u32 zs4) (hg : Tryd.prog.globalNamed "copse/crc.four" = some 0)
    {n : Nat} {l : Nat → bbsh.Den} {ai fo xi : Int} (wf0 : n ≤ 9223372036854775807 ∧ ∀ i, i < n → bbsh.wf (l i)) (r0 : Rep W (fun b => b < W.heap.size) Vln.no (.ro bbsh.size (.s n) (fun e => bbsh.svs (l e.val))) v0)
    (wf1 : intWf .u16 ai) (r1 : Rep W (fun b => b < W.heap.size) Vln.no (.int .u16 ai) v1)
    (wf2 : intWf .u16 fo) (r2 : Rep W (fun b => b < W.heap.size) Vln.no (.int .u16 fo) v2)
    (wf3 : intWf .u32 xi) (r3 : Rep W (fun b => b < W.heap.size) Vln.no (.int .u32 xi) v3) :
    Calls Tryd.prog 7 #[v0, v1, v2, v3] W fun e w' => e = .returned (.bool true) ∧ Below W.heap.size W w' := by
  have hs : xi = ((BitVec.ofInt 32 xi).toNat : Int) := by
    have h0 : 0 ≤ xi := wf3.1
    have h1 : xi ≤ 4294967295 := wf3.2
    rw [BitVec.toNat_ofInt]; omega
  exact FnTr.law (Dam.damage27_law rfl fr4_four (ll := fun i => (l i).1.1) (lf := fun i j => ((l i).1.2 j).1) wf0.1 (fun i hi => ⟨(wf0.2 i hi).1.1, fun x hx => ((wf0.2 i hi).1.2 x hx).1⟩) wf1 wf2 hs) (fun r H n h => .inr h.1) (four_rep h hg) rfl (reps_cons r0 (reps_cons r1 (reps_cons r2 (reps_cons r3 reps_nil))))
end Go.Proofs.YtnjjgipblimbfaaDoor.Dsk
