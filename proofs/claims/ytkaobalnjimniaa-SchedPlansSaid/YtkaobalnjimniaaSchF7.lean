/-
  Schedules: how many turns there are between two counts.
-/
import Derived.Test.YtkaobalnjimniaaSchF6
set_option linter.unusedVariables false
set_option linter.unusedSimpArgs false
namespace Go.Proofs.Ytkaobalnjimniaa
open Go.Eng
open Go.SchLaw (minAt nextV upV)
set_option maxRecDepth 100000
set_option linter.unusedVariables false

theorem upTo_fn {P : Program} {G : Gl} (hP : P = Try.prog) {d w t k p h tr ke no : Int} {s e c v : Nat} (hs : s ≤ 64) (he : 0 < e) (he2 : e ≤ 256) (hc : c ≤ 2199023255552) (hv : v = upV c s e) :
    FnTr P G 74 [.agg [.int .i64 d, .int .i64 w, .int .i64 t, .int .i64 (s : Int), .int .i64 (e : Int), .int .i64 k, .int .i64 p, .int .i64 h, .int .i64 tr, .int .i64 ke, .int .i64 no], .int .i64 (c : Int)] [] 0 (Gives (.int .i64 (v : Int)) [] 0) := by
  obtain ⟨f, hf⟩ : ∃ f, f = nextV 0 s e := ⟨_, rfl⟩
  have hb := (SchLaw.nextV_spec 0 s e he).2.1
  rw [← hf] at hb
  have hv' : v = if c < f then 0 else (c - f) / e + 1 := by rw [hv, hf]; rfl
  obtain ⟨q, hq⟩ : ∃ q, q = (c - f) / e := ⟨_, rfl⟩
  rw [← hq] at hv'
  have hqf : ¬ c < f → Int.tdiv ((c : Int) - (f : Int)) (e : Int) = (q : Int) := by
    intro hlt
    have h1 := quo_nat (c - f) e
    rw [← hq, show ((c - f : Nat) : Int) = (c : Int) - (f : Int) by omega] at h1
    exact h1
  have hq2 : q ≤ c := by rw [hq]; exact Nat.le_trans (Nat.div_le_self _ _) (Nat.sub_le _ _)
  have hx := next_fn (P := P) (G := G) (d := d) (w := w) (t := t) (k := k) (p := p) (h := h) (tr := tr) (ke := ke) (no := no) (c := 0) hP hs he he2 (by omega) hf
  have hT : T.Ok P := hP ▸ T_ok
  refine FnTr.intro (fn := Try.f74) (c := bodyOf Try.f74) (by rw [hP]; rfl) rfl rfl hT ?_
  generalize hA : Ar.real = A
  generalize hK : Gives _ _ _ = K
  cbv
  refine CS.le hA hx [] rfl rfl rfl ?_ ?_ ?_
  · (try cbv) <;> (repeat' (first | exact trivial | exact rfl | apply And.intro | (intro _ hle; first | refine chunk_le hA rfl hle rfl ?_ | refine cat_le hA ?_ | refine upd_le hA ?_ | (try cbv))))
  · (try cbv) <;> (repeat' (first | exact trivial | exact rfl | apply And.intro | (intro _ hle; first | refine chunk_le hA rfl hle rfl ?_ | refine cat_le hA ?_ | refine upd_le hA ?_ | (try cbv))))
  cbv
  refine ⟨fun h2 => ?_, fun h2 => ?_⟩
  · have hlt : c < f := by subst hA; simp only [Ar.real, Int.ofNat_eq_natCast, decide_eq_true_eq] at h2; omega
    rw [if_pos hlt] at hv'
    cbv
    refine Fin.le hA 0 [] (.int .i64 (v : Int)) ([]) 0 rfl rfl rfl ?_ ?_ (by rw [← hK]; exact ⟨rfl, rfl, rfl⟩)
    · (try cbv) <;> (repeat' (first | exact trivial | exact rfl | apply And.intro | (intro _ hle; first | refine chunk_le hA rfl hle rfl ?_ | refine cat_le hA ?_ | refine upd_le hA ?_ | (try cbv))))
      rw [hv']; rfl
    · (try cbv) <;> (repeat' (first | exact trivial | exact rfl | apply And.intro | (intro _ hle; first | refine chunk_le hA rfl hle rfl ?_ | refine cat_le hA ?_ | refine upd_le hA ?_ | (try cbv))))
  · have hlt : ¬ c < f := by subst hA; simp only [Ar.real, Int.ofNat_eq_natCast, decide_eq_false_iff_not] at h2; omega
    rw [if_neg hlt] at hv'
    have hqn := hqf hlt
    clear hqf
    cbv
    refine ⟨(by (subst hA; (try simp only [natCast_eq] at *); (simp only [Ar.real, NV.val, Int.ofNat_eq_natCast, Int.toNat_natCast]); first | done | omega | decide | exact inR64 (by omega) (by omega) | (refine ⟨?_, ?_⟩ <;> first | omega | decide | exact inR64 (by omega) (by omega)))), (by (subst hA; (try simp only [natCast_eq] at *); (simp only [Ar.real, NV.val, Int.ofNat_eq_natCast, Int.toNat_natCast, hqn]); first | done | omega | decide | exact inR64 (by omega) (by omega) | (refine ⟨?_, ?_⟩ <;> first | omega | decide | exact inR64 (by omega) (by omega)))), (by (subst hA; (try simp only [natCast_eq] at *); (simp only [Ar.real, NV.val, Int.ofNat_eq_natCast, Int.toNat_natCast, hqn]); first | done | omega | decide | exact inR64 (by omega) (by omega) | (refine ⟨?_, ?_⟩ <;> first | omega | decide | exact inR64 (by omega) (by omega)))), ?_⟩
    refine Fin.le hA 0 [] (.int .i64 (v : Int)) ([]) 0 rfl rfl rfl ?_ ?_ (by rw [← hK]; exact ⟨rfl, rfl, rfl⟩)
    · (try cbv) <;> (repeat' (first | exact trivial | exact rfl | apply And.intro | (intro _ hle; first | refine chunk_le hA rfl hle rfl ?_ | refine cat_le hA ?_ | refine upd_le hA ?_ | (try cbv))))
      (subst hA; (try simp only [natCast_eq] at *); (simp only [Ar.real, NV.val, Int.ofNat_eq_natCast, Int.toNat_natCast, hqn]); first | done | omega | decide | exact inR64 (by omega) (by omega) | (refine ⟨?_, ?_⟩ <;> first | omega | decide | exact inR64 (by omega) (by omega)))
    · (try cbv) <;> (repeat' (first | exact trivial | exact rfl | apply And.intro | (intro _ hle; first | refine chunk_le hA rfl hle rfl ?_ | refine cat_le hA ?_ | refine upd_le hA ?_ | (try cbv))))

def TurnsIs (R : Prop) (a b s e r er : Int) : Prop :=
  (¬ R ∧ er = 200 ∧ r = 0) ∨ (R ∧ ¬ ((0 ≤ a ∧ a ≤ 1099511627776) ∧ (0 ≤ b ∧ b ≤ 1099511627776)) ∧ er = 1 ∧ r = 0) ∨
    (R ∧ ((0 ≤ a ∧ a ≤ 1099511627776) ∧ (0 ≤ b ∧ b ≤ 1099511627776)) ∧ er = 0 ∧ r = max 0 ((upV b.toNat s.toNat e.toNat : Int) - (upV a.toNat s.toNat e.toNat : Int)))

theorem Turns_fn {P : Program} {G : Gl} (hP : P = Try.prog) {d w t s e k p h tr ke no : Int} {a b r er : Int} (hh : intWf .i64 h) (hn : TurnsIs (RightP d w t s e k p h tr ke no) a b s e r er) :
    FnTr P G 37 [.agg [.int .i64 d, .int .i64 w, .int .i64 t, .int .i64 s, .int .i64 e, .int .i64 k, .int .i64 p, .int .i64 h, .int .i64 tr, .int .i64 ke, .int .i64 no], .int .i64 a, .int .i64 b] [] 0 (Gives (.tup [.int .i64 r, .int .i64 er]) [] 3) := by
  have key : ∀ er', ErrIs (RightP d w t s e k p h tr ke no) 2 (ofL [a, b]) er' → FnTr P G 72 [.agg [.int .i64 d, .int .i64 w, .int .i64 t, .int .i64 s, .int .i64 e, .int .i64 k, .int .i64 p, .int .i64 h, .int .i64 tr, .int .i64 ke, .int .i64 no], .ro 1 (.s 2) (fun e => [.int .i64 (ofL [a, b] e.val)])] [] 0 (Gives (.int .i64 er') [] 1) :=
    fun er' he => right1_fn hP (by omega) hh he
  obtain ⟨f, hf⟩ : ∃ f, f = ofL [a, b] := ⟨_, rfl⟩
  rw [← hf] at key
  have hf0 : ∀ i, f i = [a, b].getD i 0 := fun i => by rw [hf]; rfl
  have hE : ErrIs (RightP d w t s e k p h tr ke no) 2 f er := by
    rcases hn with ⟨h0, rfl, _⟩ | ⟨h0, h1, rfl, _⟩ | ⟨h0, h1, rfl, _⟩
    · exact .inl ⟨h0, rfl⟩
    · refine .inr (.inl ⟨h0, ?_, rfl⟩)
      by_cases ha : 0 ≤ a ∧ a ≤ 1099511627776
      · exact ⟨1, by omega, by rw [hf0]; exact fun hb => h1 ⟨ha, hb⟩⟩
      · exact ⟨0, by omega, by rw [hf0]; exact ha⟩
    · refine .inr (.inr ⟨h0, fun i hi => ?_, rfl⟩)
      have : i = 0 ∨ i = 1 := by omega
      rcases this with rfl | rfl
      · rw [hf0]; exact h1.1
      · rw [hf0]; exact h1.2
  by_cases her : er = 0
  · obtain ⟨hR, hc, rfl, hr⟩ : RightP d w t s e k p h tr ke no ∧ ((0 ≤ a ∧ a ≤ 1099511627776) ∧ (0 ≤ b ∧ b ≤ 1099511627776)) ∧ er = 0 ∧ r = max 0 ((upV b.toNat s.toNat e.toNat : Int) - (upV a.toNat s.toNat e.toNat : Int)) := by
      rcases hn with ⟨_, h1, _⟩ | ⟨_, _, h1, _⟩ | h0
      · omega
      · omega
      · exact h0
    obtain ⟨sn, en, hsn, hen, s1, s2, e1, e2⟩ := right_nat hR
    obtain ⟨an, han⟩ : ∃ an : Nat, a = (an : Int) := ⟨a.toNat, by omega⟩
    obtain ⟨bn, hbn⟩ : ∃ bn : Nat, b = (bn : Int) := ⟨b.toNat, by omega⟩
    obtain ⟨va, hva⟩ : ∃ v, v = upV an sn en := ⟨_, rfl⟩
    obtain ⟨vb, hvb⟩ : ∃ v, v = upV bn sn en := ⟨_, rfl⟩
    have hup : ∀ c, upV c sn en ≤ c + 1 := fun c => by
      unfold upV; split
      · omega
      · have := Nat.le_trans (Nat.div_le_self (c - nextV 0 sn en) en) (Nat.sub_le c (nextV 0 sn en)); omega
    have hla := hup an
    have hlb := hup bn
    rw [← hva] at hla
    rw [← hvb] at hlb
    have hrv : r = max 0 ((vb : Int) - (va : Int)) := by rw [hr, hva, hvb, han, hbn, hsn, hen]; simp
    have hx := upTo_fn (P := P) (G := G) (d := d) (w := w) (t := t) (k := k) (p := p) (h := h) (tr := tr) (ke := ke) (no := no) hP s2 e1 e2 (show an ≤ 2199023255552 by omega) hva
    have hy := upTo_fn (P := P) (G := G) (d := d) (w := w) (t := t) (k := k) (p := p) (h := h) (tr := tr) (ke := ke) (no := no) hP s2 e1 e2 (show bn ≤ 2199023255552 by omega) hvb
    rw [← hsn, ← hen, ← han] at hx
    rw [← hsn, ← hen, ← hbn] at hy
    have hk := key 0 hE
    have hl1 : va ≤ 1099511627777 := by omega
    have hl2 : vb ≤ 1099511627777 := by omega
    clear key hn hE hup
    have hT : T.Ok P := hP ▸ T_ok
    refine FnTr.intro (fn := Try.f37) (c := bodyOf Try.f37) (by rw [hP]; rfl) rfl rfl hT ?_
    generalize hA : Ar.real = A
    generalize hK : Gives _ _ _ = K
    cbv
    refine CS.frzA hA (by (try cbv) <;> (repeat' (first | exact trivial | exact rfl | apply And.intro | (intro _ hle; first | refine chunk_le hA rfl hle rfl ?_ | refine cat_le hA ?_ | refine upd_le hA ?_ | (try cbv)))); all_goals (subst hA; (try simp only [natCast_eq] at *); (simp only [Ar.real, NV.val, Int.ofNat_eq_natCast, Int.toNat_natCast]); first | done | omega | decide | exact inR64 (by omega) (by omega) | (refine ⟨?_, ?_⟩ <;> first | omega | decide | exact inR64 (by omega) (by omega)))) ?_
    cbv
    refine CS.leR hA hk (.lit .i64 0) [] rfl rfl rfl ?_ ?_ ?_ ?_
    · (try cbv) <;> (repeat' (first | exact trivial | exact rfl | apply And.intro | (intro _ hle; first | refine chunk_le hA rfl hle rfl ?_ | refine cat_le hA ?_ | refine upd_le hA ?_ | (try cbv))))
      exact hf0 _
    · (try cbv) <;> (repeat' (first | exact trivial | exact rfl | apply And.intro | (intro _ hle; first | refine chunk_le hA rfl hle rfl ?_ | refine cat_le hA ?_ | refine upd_le hA ?_ | (try cbv))))
    · (try cbv) <;> (repeat' (first | exact trivial | exact rfl | apply And.intro | (intro _ hle; first | refine chunk_le hA rfl hle rfl ?_ | refine cat_le hA ?_ | refine upd_le hA ?_ | (try cbv))))
    cbv
    refine DS.run hA hT (by rw [hP]; exact P_mixed) 1 rfl ?_
    cbv
    refine CD.pass hA (hy) [] [] rfl ⟨rfl, rfl, rfl, rfl, ?_, ?_⟩ rfl (.inl rfl) ?_
    · (try cbv) <;> (repeat' (first | exact trivial | exact rfl | apply And.intro | (intro _ hle; first | refine chunk_le hA rfl hle rfl ?_ | refine cat_le hA ?_ | refine upd_le hA ?_ | (try cbv))))
    · (try cbv) <;> (repeat' (first | exact trivial | exact rfl | apply And.intro | (intro _ hle; first | refine chunk_le hA rfl hle rfl ?_ | refine cat_le hA ?_ | refine upd_le hA ?_ | (try cbv))))
    cbv
    refine CD.pass hA (hx) [] [] rfl ⟨rfl, rfl, rfl, rfl, ?_, ?_⟩ rfl (.inl rfl) ?_
    · (try cbv) <;> (repeat' (first | exact trivial | exact rfl | apply And.intro | (intro _ hle; first | refine chunk_le hA rfl hle rfl ?_ | refine cat_le hA ?_ | refine upd_le hA ?_ | (try cbv))))
    · (try cbv) <;> (repeat' (first | exact trivial | exact rfl | apply And.intro | (intro _ hle; first | refine chunk_le hA rfl hle rfl ?_ | refine cat_le hA ?_ | refine upd_le hA ?_ | (try cbv))))
    cbv
    refine ⟨(by (subst hA; (try simp only [natCast_eq] at *); (simp only [Ar.real, NV.val, Int.ofNat_eq_natCast, Int.toNat_natCast]); first | done | omega | decide | exact inR64 (by omega) (by omega) | (refine ⟨?_, ?_⟩ <;> first | omega | decide | exact inR64 (by omega) (by omega)))), ?_⟩
    refine Fin.le hA 0 [] (.tup [.int .i64 r, .int .i64 0]) ([]) 3 rfl rfl rfl ?_ ?_ (by rw [← hK]; exact ⟨rfl, rfl, rfl⟩)
    · (try cbv) <;> (repeat' (first | exact trivial | exact rfl | apply And.intro | (intro _ hle; first | refine chunk_le hA rfl hle rfl ?_ | refine cat_le hA ?_ | refine upd_le hA ?_ | (try cbv))))
      subst hA; simp only [Ar.real, Int.ofNat_eq_natCast, natCast_eq] at *; omega
    · (try cbv) <;> (repeat' (first | exact trivial | exact rfl | apply And.intro | (intro _ hle; first | refine chunk_le hA rfl hle rfl ?_ | refine cat_le hA ?_ | refine upd_le hA ?_ | (try cbv))))
  · obtain rfl : r = 0 := by
      rcases hn with ⟨_, _, h1⟩ | ⟨_, _, _, h1⟩ | ⟨_, _, h1, _⟩
      · exact h1
      · exact h1
      · exact absurd h1 her
    have hk := key er hE
    clear key hn hE
    have hT : T.Ok P := hP ▸ T_ok
    refine FnTr.intro (fn := Try.f37) (c := bodyOf Try.f37) (by rw [hP]; rfl) rfl rfl hT ?_
    generalize hA : Ar.real = A
    generalize hK : Gives _ _ _ = K
    cbv
    refine CS.frzA hA (by (try cbv) <;> (repeat' (first | exact trivial | exact rfl | apply And.intro | (intro _ hle; first | refine chunk_le hA rfl hle rfl ?_ | refine cat_le hA ?_ | refine upd_le hA ?_ | (try cbv)))); all_goals (subst hA; (try simp only [natCast_eq] at *); (simp only [Ar.real, NV.val, Int.ofNat_eq_natCast, Int.toNat_natCast]); first | done | omega | decide | exact inR64 (by omega) (by omega) | (refine ⟨?_, ?_⟩ <;> first | omega | decide | exact inR64 (by omega) (by omega)))) ?_
    cbv
    refine CS.le hA hk [] rfl rfl rfl ?_ ?_ ?_
    · (try cbv) <;> (repeat' (first | exact trivial | exact rfl | apply And.intro | (intro _ hle; first | refine chunk_le hA rfl hle rfl ?_ | refine cat_le hA ?_ | refine upd_le hA ?_ | (try cbv))))
      exact hf0 _
    · (try cbv) <;> (repeat' (first | exact trivial | exact rfl | apply And.intro | (intro _ hle; first | refine chunk_le hA rfl hle rfl ?_ | refine cat_le hA ?_ | refine upd_le hA ?_ | (try cbv))))
    cbv
    have hne : A.ne er 0 = true := by subst hA; simp only [Ar.real]; simpa using her
    refine ⟨fun _ => ?_, fun h => absurd (hne.symm.trans h) (by decide)⟩
    cbv
    refine Fin.le hA 0 [] (.tup [.int .i64 0, .int .i64 er]) ([]) 3 rfl rfl rfl ?_ ?_ (by rw [← hK]; exact ⟨rfl, rfl, rfl⟩)
    · (try cbv) <;> (repeat' (first | exact trivial | exact rfl | apply And.intro | (intro _ hle; first | refine chunk_le hA rfl hle rfl ?_ | refine cat_le hA ?_ | refine upd_le hA ?_ | (try cbv))))
    · (try cbv) <;> (repeat' (first | exact trivial | exact rfl | apply And.intro | (intro _ hle; first | refine chunk_le hA rfl hle rfl ?_ | refine cat_le hA ?_ | refine upd_le hA ?_ | (try cbv))))
end Go.Proofs.Ytkaobalnjimniaa
