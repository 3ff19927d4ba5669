/-
  Rings: the vectors of all, both; the last one with a number, both.
-/
import Derived.Test.YtkaobalnjimniaaRngF4
import Derived.Test.YtkaobalnjimniaaEngThree
set_option linter.unusedVariables false
set_option linter.unusedSimpArgs false
namespace Go.Proofs.Ytkaobalnjimniaa.Rng
open Go.Eng
open Go.RngLaw (Sn sn zSn rgP manyC firstC)
set_option maxRecDepth 100000
set_option maxHeartbeats 4000000
set_option linter.unusedVariables false

abbrev PtS (m : Nat) (g : Nat → Sn) : SV := .ro 1 (.s m) (fun e => [.ro 1 (.s (g e.val).xl) (fun x => [.int .i64 ((g e.val).x x.val)])])

theorem points_fn {P : Program} {G : Gl} (hP : P = Try.prog) {room a m : Nat} {pl g : Nat → Sn} (h : room ≤ 1000 ∧ a < room ∧ m ≤ room) (hg : ∀ i, i < m → g i = pl ((a + i) % room)) (hx : ∀ i, i < m → (g i).xl ≤ 1000000) :
    FnTr P G 28 [.ptr 0 0] (RH 0 1 room a m pl) 2 (Gives (PtS m g) (RH 0 1 room a m pl) 3) := by
  have cl := len_fn (P := P) (G := G) (room := room) (a := a) (m := m) (pl := pl) hP
  have c1 : ∀ i, i < m → ∃ r, r < room ∧ g i = pl r ∧ FnTr P G 65 [.rp [.ro 5 (.s room) (fun e => sn (pl e.val)), .int .i64 (a : Int), .int .i64 (m : Int)], .int .i64 (i : Int)] [] 0 (Gives (.int .i64 (r : Int)) [] 0) := fun i hi =>
    ⟨(a + i) % room, Nat.mod_lt _ (by omega), hg i hi, place_fn hP (by omega) (by omega) rfl⟩
  have c2 : ∀ i, i < m → FnTr P G 66 [.ro 1 (.s (g i).xl) (fun e => [.int .i64 ((g i).x e.val)])] [] 0 (Gives (.ro 1 (.s (g i).xl) (fun e => [.int .i64 ((g i).x e.val)])) [] 1) := fun i hi => clone_fn hP (hx i hi)
  clear hg hx
  have h0 : FnTr P G 28 [.ptr 0 0] (RH 0 1 room a m pl) 2 (Gives (.sl 2 1 (.l 0) (.s m)) ((2, .row 30 1 (.s m) (fun e => [.ro 1 (.s (g e.val).xl) (fun x => [.int .i64 ((g e.val).x x.val)])])) :: RH 0 1 room a m pl) 3) := by
    have hT : T.Ok P := hP ▸ T_ok
    refine FnTr.intro (fn := Try.f28) (c := bodyOf Try.f28) (by rw [hP]; rfl) rfl rfl hT ?_
    generalize hA : Ar.real = A
    generalize hK : Gives _ _ _ = K
    cbv
    refine CS.lend hA cl [] [0, 1] 1 rfl ⟨rfl, rfl, rfl, rfl, ?_, ?_⟩ rfl (.inr ⟨rfl, trivial⟩) ?_
    · (try cbv) <;> (repeat' (first | exact trivial | exact rfl | apply And.intro | (intro _ hle; first | refine chunk_le hA rfl hle rfl ?_ | refine cat_le hA ?_ | refine upd_le hA ?_ | (try cbv))))
      all_goals (subst hA; (try simp only [natCast_eq] at *); (simp only [Ar.real, NV.val, Int.ofNat_eq_natCast, Int.toNat_natCast]); first | done | omega | decide | exact inR64 (by omega) (by omega) | (refine ⟨?_, ?_⟩ <;> first | omega | decide | exact inR64 (by omega) (by omega)))
    · (try cbv) <;> (repeat' (first | exact trivial | exact rfl | apply And.intro | (intro _ hle; first | refine chunk_le hA rfl hle rfl ?_ | refine cat_le hA ?_ | refine upd_le hA ?_ | (try cbv))))
    cbv
    refine LS.ghost 30 1 (.l 0) (fun _ => [.nils]) rfl ?_
    refine LS.le hT hA 2 (fun (i : Nat) => [(3, .sl 2 1 (.l 0) (.s i)), (7, .int .i64 (i : Int))]) (fun i => (2, .row 30 1 (.s i) (fun e => [.ro 1 (.s (g e.val).xl) (fun x => [.int .i64 ((g e.val).x x.val)])])) :: RH 0 1 room a m pl) (fun i => i ≤ m) (fun i => m - i) 0 [(7, 2)] rfl rfl ?_ ?_ ?_
    · (try cbv) <;> (repeat' (first | exact trivial | exact rfl | apply And.intro | (intro _ hle; first | refine chunk_le hA rfl hle rfl ?_ | refine cat_le hA ?_ | refine upd_le hA ?_ | refine int_le ?_ | skip)))
      all_goals (exfalso; subst hA; exact absurd (ltNV_real.1 hle) (Nat.not_lt_zero _))
    · exact Nat.zero_le _
    · intro R hR i hi
      cbv
      refine ⟨fun h1 => ?_, fun h1 => ?_⟩
      · have him : i < m := by clear c1 c2; subst hA; simp [Ar.real] at h1; omega
        obtain ⟨r, hr, hgr, a1⟩ := c1 i him
        have a2 := c2 i him
        clear c1 c2
        cbv
        refine DS.runK hA hT (by rw [hP]; exact P_mixed) 4 rfl ?_
        cbv
        refine CD.pass hA a1 [] [0, 1] rfl ⟨rfl, rfl, rfl, rfl, ?_, ?_⟩ rfl (.inr ⟨rfl, trivial⟩) ?_
        · (try cbv) <;> (repeat' (first | exact trivial | exact rfl | apply And.intro | (intro _ hle; first | refine chunk_le hA rfl hle rfl ?_ | refine cat_le hA ?_ | refine upd_le hA ?_ | (try cbv))))
          all_goals (subst hA; (try simp only [natCast_eq] at *); (simp only [Ar.real, NV.val, Int.ofNat_eq_natCast, Int.toNat_natCast]); first | done | omega | decide | exact inR64 (by omega) (by omega) | (refine ⟨?_, ?_⟩ <;> first | omega | decide | exact inR64 (by omega) (by omega)))
        · (try cbv) <;> (repeat' (first | exact trivial | exact rfl | apply And.intro | (intro _ hle; first | refine chunk_le hA rfl hle rfl ?_ | refine cat_le hA ?_ | refine upd_le hA ?_ | (try cbv))))
        cbv
        refine ⟨(by (subst hA; (try simp only [natCast_eq] at *); (simp only [Ar.real, NV.val, Int.ofNat_eq_natCast, Int.toNat_natCast]); first | done | omega | decide | exact inR64 (by omega) (by omega) | (refine ⟨?_, ?_⟩ <;> first | omega | decide | exact inR64 (by omega) (by omega)))), (by (subst hA; (try simp only [natCast_eq] at *); (simp only [Ar.real, NV.val, Int.ofNat_eq_natCast, Int.toNat_natCast]); first | done | omega | decide | exact inR64 (by omega) (by omega) | (refine ⟨?_, ?_⟩ <;> first | omega | decide | exact inR64 (by omega) (by omega)))), ?_⟩
        refine CD.pass hA a2 [] [] rfl ⟨rfl, rfl, rfl, rfl, ?_, ?_⟩ rfl (.inl rfl) ?_
        · (try cbv) <;> (repeat' (first | exact trivial | exact rfl | apply And.intro | (intro _ hle; first | refine chunk_le hA rfl hle rfl ?_ | refine cat_le hA ?_ | refine upd_le hA ?_ | (try cbv))))
          all_goals (subst hA; rw [hgr]; rfl)
        · (try cbv) <;> (repeat' (first | exact trivial | exact rfl | apply And.intro | (intro _ hle; first | refine chunk_le hA rfl hle rfl ?_ | refine cat_le hA ?_ | refine upd_le hA ?_ | (try cbv))))
        cbv
        have hpush : ∀ e, ltNV A e (.s (A.addN i 1)) → leL (leSV A 4) (catG A 1 (.s i) (fun e => [.ro 1 (.s (g e.val).xl) (fun x => [.int .i64 ((g e.val).x x.val)])]) (fun x => chunkS A 1 [.ro 1 (.s (g i).xl) (fun x => [.int .i64 ((g i).x x.val)])] (addNV A (.l 0) x)) e) [.ro 1 (.s (g e.val).xl) (fun x => [.int .i64 ((g e.val).x x.val)])] := fun e he => by
          have he : e.val < i + 1 := by subst hA; exact ltNV_real.1 he
          have hlen : (g e.val).xl = if e.val < i then (g e.val).xl else (g i).xl := by
            by_cases q : e.val < i
            · rw [if_pos q]
            · rw [if_neg q, show e.val = i by omega]
          have hrow : ∀ j, j < (g e.val).xl → (g e.val).x j = if e.val < i then (g e.val).x j else (g i).x j := fun j _ => by
            by_cases q : e.val < i
            · rw [if_pos q]
            · rw [if_neg q, show e.val = i by omega]
          exact rows_push (len := fun i => (g i).xl) (len' := fun i => (g i).xl) (g := fun i => (g i).x) (g' := fun i => (g i).x) (h := (g i).x) hA (by omega) hlen hrow
        refine ⟨⟨(by (subst hA; (try simp only [natCast_eq] at *); (simp only [Ar.real, NV.val, Int.ofNat_eq_natCast, Int.toNat_natCast]); first | done | omega | decide | exact inR64 (by omega) (by omega) | (refine ⟨?_, ?_⟩ <;> first | omega | decide | exact inR64 (by omega) (by omega)))), (by (subst hA; (try simp only [natCast_eq] at *); (simp only [Ar.real, NV.val, Int.ofNat_eq_natCast, Int.toNat_natCast]); first | done | omega | decide | exact inR64 (by omega) (by omega) | (refine ⟨?_, ?_⟩ <;> first | omega | decide | exact inR64 (by omega) (by omega)))), (by (subst hA; (try simp only [natCast_eq] at *); (simp only [Ar.real, NV.val, Int.ofNat_eq_natCast, Int.toNat_natCast]); first | done | omega | decide | exact inR64 (by omega) (by omega) | (refine ⟨?_, ?_⟩ <;> first | omega | decide | exact inR64 (by omega) (by omega))))⟩, ?_⟩
        refine DF.fin (by kernel_rfl) (by kernel_rfl) ?_
        cbv
        refine ⟨(by (subst hA; (try simp only [natCast_eq] at *); (simp only [Ar.real, NV.val, Int.ofNat_eq_natCast, Int.toNat_natCast]); first | done | omega | decide | exact inR64 (by omega) (by omega) | (refine ⟨?_, ?_⟩ <;> first | omega | decide | exact inR64 (by omega) (by omega)))), hR _ _ ⟨i + 1, 2, [(70, 2)], rfl, rfl, ?_, him, (by show m - (i + 1) < m - i; omega)⟩⟩
        clear hR
        (try cbv) <;> (repeat' (first | exact trivial | exact rfl | apply And.intro | (intro _ hle; first | exact hpush _ hle | refine chunk_le hA rfl hle rfl ?_ | refine cat_le hA ?_ | refine upd_le hA ?_ | refine int_le ?_ | skip)))
        all_goals (subst hA; (try simp only [natCast_eq] at *); (simp only [Ar.real, NV.val, Int.ofNat_eq_natCast, Int.toNat_natCast]); first | done | omega | decide | exact inR64 (by omega) (by omega) | (refine ⟨?_, ?_⟩ <;> first | omega | decide | exact inR64 (by omega) (by omega)))
      · clear hR
        have him : i = m := by clear c1 c2; subst hA; simp [Ar.real] at h1; omega
        subst him
        clear c1 c2
        cbv
        refine Fin.le hA 2 [(2, 2)] (.sl 2 1 (.l 0) (.s i)) ((2, .row 30 1 (.s i) (fun e => [.ro 1 (.s (g e.val).xl) (fun x => [.int .i64 ((g e.val).x x.val)])])) :: RH 0 1 room a i pl) 3 rfl rfl rfl ?_ ?_ (by rw [← hK]; exact ⟨rfl, rfl, rfl⟩)
        · (try cbv) <;> (repeat' (first | exact trivial | exact rfl | apply And.intro | (intro _ hle; first | refine chunk_le hA rfl hle rfl ?_ | refine cat_le hA ?_ | refine upd_le hA ?_ | refine int_le ?_ | skip)))
        · (try cbv) <;> (repeat' (first | exact trivial | exact rfl | apply And.intro | (intro _ hle; first | refine chunk_le hA rfl hle rfl ?_ | refine cat_le hA ?_ | refine upd_le hA ?_ | refine int_le ?_ | skip)))
  generalize hA : Ar.real = A
  refine FnTr.dat hA h0 _ _ ?_
  (try cbv) <;> (repeat' (first | exact trivial | exact rfl | apply And.intro | (intro _ hle; first | refine chunk_le hA rfl hle rfl ?_ | refine cat_le hA ?_ | refine upd_le hA ?_ | refine int_le ?_ | skip)))
  all_goals (subst hA; (try simp only [natCast_eq] at *); (simp only [Ar.real, NV.val, Int.ofNat_eq_natCast, Int.toNat_natCast]); first | done | omega | decide | exact inR64 (by omega) (by omega) | (refine ⟨?_, ?_⟩ <;> first | omega | decide | exact inR64 (by omega) (by omega)))

theorem refpoints_fn {P : Program} {G : Gl} (hP : P = Try.prog) {m : Nat} {g : Nat → Sn} (h : m ≤ 1000000) :
    FnTr P G 29 [.ro 5 (.s m) (fun e => sn (g e.val))] [] 0 (Gives (PtS m g) [] 1) := by
  have h0 : FnTr P G 29 [.ro 5 (.s m) (fun e => sn (g e.val))] [] 0 (Gives (.sl 0 1 (.l 0) (.s m)) [(0, .row 30 1 (.s m) (fun e => [.ro 1 (.s (g e.val).xl) (fun x => [.int .i64 ((g e.val).x x.val)])]))] 1) := by
    have hT : T.Ok P := hP ▸ T_ok
    refine FnTr.intro (fn := Try.f29) (c := bodyOf Try.f29) (by rw [hP]; rfl) rfl rfl hT ?_
    generalize hA : Ar.real = A
    generalize hK : Gives _ _ _ = K
    cbv
    refine LS.ghost 30 1 (.l 0) (fun _ => [.nils]) rfl ?_
    refine LS.le hT hA 0 (fun (i : Nat) => [(3, .sl 0 1 (.l 0) (.s i)), (4, .int .i64 (i : Int))]) (fun i => [(0, .row 30 1 (.s i) (fun e => [.ro 1 (.s (g e.val).xl) (fun x => [.int .i64 ((g e.val).x x.val)])]))]) (fun i => i ≤ m) (fun i => m - i) 0 [(3, 0)] rfl rfl ?_ ?_ ?_
    · (try cbv) <;> (repeat' (first | exact trivial | exact rfl | apply And.intro | (intro _ hle; first | refine chunk_le hA rfl hle rfl ?_ | refine cat_le hA ?_ | refine upd_le hA ?_ | refine int_le ?_ | skip)))
      all_goals (exfalso; subst hA; exact absurd (ltNV_real.1 hle) (Nat.not_lt_zero _))
    · exact Nat.zero_le _
    · intro R hR i hi
      cbv
      refine ⟨fun h1 => ?_, fun h1 => ?_⟩
      · have him : i < m := by subst hA; simp [Ar.real] at h1; omega
        cbv
        have hpush : ∀ e, ltNV A e (.s (A.addN i 1)) → leL (leSV A 4) (catG A 1 (.s i) (fun e => [.ro 1 (.s (g e.val).xl) (fun x => [.int .i64 ((g e.val).x x.val)])]) (fun x => chunkS A 1 [.ro 1 (.s (g (A.nat (Int.ofNat i))).xl) (fun x => [.int .i64 ((g (A.nat (Int.ofNat i))).x x.val)])] (addNV A (.l 0) x)) e) [.ro 1 (.s (g e.val).xl) (fun x => [.int .i64 ((g e.val).x x.val)])] := fun e he => by
          rw [show A.nat (Int.ofNat i) = i from by subst hA; rfl]
          have he : e.val < i + 1 := by subst hA; exact ltNV_real.1 he
          have hlen : (g e.val).xl = if e.val < i then (g e.val).xl else (g i).xl := by
            by_cases q : e.val < i
            · rw [if_pos q]
            · rw [if_neg q, show e.val = i by omega]
          have hrow : ∀ j, j < (g e.val).xl → (g e.val).x j = if e.val < i then (g e.val).x j else (g i).x j := fun j _ => by
            by_cases q : e.val < i
            · rw [if_pos q]
            · rw [if_neg q, show e.val = i by omega]
          exact rows_push (len := fun i => (g i).xl) (len' := fun i => (g i).xl) (g := fun i => (g i).x) (g' := fun i => (g i).x) (h := (g i).x) hA (by omega) hlen hrow
        refine ⟨(by (subst hA; (try simp only [natCast_eq] at *); (simp only [Ar.real, NV.val, Int.ofNat_eq_natCast, Int.toNat_natCast]); first | done | omega | decide | exact inR64 (by omega) (by omega) | (refine ⟨?_, ?_⟩ <;> first | omega | decide | exact inR64 (by omega) (by omega)))), ⟨(by (subst hA; (try simp only [natCast_eq] at *); (simp only [Ar.real, NV.val, Int.ofNat_eq_natCast, Int.toNat_natCast]); first | done | omega | decide | exact inR64 (by omega) (by omega) | (refine ⟨?_, ?_⟩ <;> first | omega | decide | exact inR64 (by omega) (by omega)))), (by (subst hA; (try simp only [natCast_eq] at *); (simp only [Ar.real, NV.val, Int.ofNat_eq_natCast, Int.toNat_natCast]); first | done | omega | decide | exact inR64 (by omega) (by omega) | (refine ⟨?_, ?_⟩ <;> first | omega | decide | exact inR64 (by omega) (by omega)))), (by (subst hA; (try simp only [natCast_eq] at *); (simp only [Ar.real, NV.val, Int.ofNat_eq_natCast, Int.toNat_natCast]); first | done | omega | decide | exact inR64 (by omega) (by omega) | (refine ⟨?_, ?_⟩ <;> first | omega | decide | exact inR64 (by omega) (by omega))))⟩, (by (subst hA; (try simp only [natCast_eq] at *); (simp only [Ar.real, NV.val, Int.ofNat_eq_natCast, Int.toNat_natCast]); first | done | omega | decide | exact inR64 (by omega) (by omega) | (refine ⟨?_, ?_⟩ <;> first | omega | decide | exact inR64 (by omega) (by omega)))), hR _ _ ⟨i + 1, 0, [(12, 0)], rfl, rfl, ?_, him, (by show m - (i + 1) < m - i; omega)⟩⟩
        clear hR
        (try cbv) <;> (repeat' (first | exact trivial | exact rfl | apply And.intro | (intro _ hle; first | exact hpush _ hle | refine chunk_le hA rfl hle rfl ?_ | refine cat_le hA ?_ | refine upd_le hA ?_ | refine int_le ?_ | skip)))
        all_goals (subst hA; (try simp only [natCast_eq] at *); (simp only [Ar.real, NV.val, Int.ofNat_eq_natCast, Int.toNat_natCast]); first | done | omega | decide | exact inR64 (by omega) (by omega) | (refine ⟨?_, ?_⟩ <;> first | omega | decide | exact inR64 (by omega) (by omega)))
      · clear hR
        have him : i = m := by subst hA; simp [Ar.real] at h1; omega
        subst him
        cbv
        refine Fin.le hA 0 [(0, 0)] (.sl 0 1 (.l 0) (.s i)) ([(0, .row 30 1 (.s i) (fun e => [.ro 1 (.s (g e.val).xl) (fun x => [.int .i64 ((g e.val).x x.val)])]))]) 1 rfl rfl rfl ?_ ?_ (by rw [← hK]; exact ⟨rfl, rfl, rfl⟩)
        · (try cbv) <;> (repeat' (first | exact trivial | exact rfl | apply And.intro | (intro _ hle; first | refine chunk_le hA rfl hle rfl ?_ | refine cat_le hA ?_ | refine upd_le hA ?_ | refine int_le ?_ | skip)))
        · (try cbv) <;> (repeat' (first | exact trivial | exact rfl | apply And.intro | (intro _ hle; first | refine chunk_le hA rfl hle rfl ?_ | refine cat_le hA ?_ | refine upd_le hA ?_ | refine int_le ?_ | skip)))
  generalize hA : Ar.real = A
  refine FnTr.dat hA h0 _ _ ?_
  (try cbv) <;> (repeat' (first | exact trivial | exact rfl | apply And.intro | (intro _ hle; first | refine chunk_le hA rfl hle rfl ?_ | refine cat_le hA ?_ | refine upd_le hA ?_ | refine int_le ?_ | skip)))
  all_goals (subst hA; (try simp only [natCast_eq] at *); (simp only [Ar.real, NV.val, Int.ofNat_eq_natCast, Int.toNat_natCast]); first | done | omega | decide | exact inR64 (by omega) (by omega) | (refine ⟨?_, ?_⟩ <;> first | omega | decide | exact inR64 (by omega) (by omega)))
end Go.Proofs.Ytkaobalnjimniaa.Rng
