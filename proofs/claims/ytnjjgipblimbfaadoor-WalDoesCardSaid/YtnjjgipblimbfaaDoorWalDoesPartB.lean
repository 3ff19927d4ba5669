/-
  A verified symbolic executor over the code of the model, and what it shows of this program: part 2 of 6 (LawWalDoes).
-/
import Derived.Test.YtnjjgipblimbfaaDoorWalDoesPartA
import Derived.Shelf.Abstract
import Derived.RangeFuncLeaves
import Derived.RangeFuncRecord
import Derived.Scope
import Derived.Deep.LoopGhost
set_option linter.unusedVariables false
set_option linter.unusedSimpArgs false
/-
  The symbolic executor: conversions; len, min, max; the marks on bytes.
-/
namespace Go.Eng
def convInt (A : Ar) (k : IntKind) (x : SV) : Option SV :=
  match x with
  | .lit _ n => some (.lit k (k.wrap n))
  | .int _ n => some (.int k (A.conv k n))
  | _ => none
def convStr (A : Ar) (hp : HF) (x : SV) : Option (Prop × SV × List Nat) :=
  match srcSV A hp 1 x with
  | some (p, m, g, rd) => some (p ∧ (∀ e : NV, e.val < m.val → bytesOk g e = true), .str (A.bytes m.val (byteAt g)), rd)
  | none => none
section
variable {P : Program} {cx : Cx} {w : World} {I : Nat → Prop} {β : Vln} {hp : HF} {nx : Nat}
theorem convInt_ok {src dst : TypeId} {ds : TypeDesc} {k : IntKind} {x r : SV} {u : Value} (hs : P.underlying src = some ds) (hd : P.underlying dst = some (.int k)) (h : convInt Ar.real k x = some r) (hx : Rep w I β x u) :
    ∃ z, (convert src dst u).run P w = .ok z w ∧ Rep w I β r z := by
  unfold convInt at h
  split at h <;> cases h <;> cases hx
  · exact ⟨_, by simp only [convert, Sem.run_bind, run_underlying hs, run_underlying hd, Result.andThen_ok, Conv.intToInt, Sem.run_pure], .lit _ _⟩
  · exact ⟨.int k (k.wrap _), by simp only [convert, Sem.run_bind, run_underlying hs, run_underlying hd, Result.andThen_ok, Conv.intToInt, Sem.run_pure], .int _ _⟩
theorem foldl_push (l : List Int) : ∀ (r : ByteArray), (l.foldl (fun r n => r.push (UInt8.ofNat n.toNat)) r).data.toList = r.data.toList ++ l.map fun n => UInt8.ofNat n.toNat := by
  induction l with
  | nil => intro r; simp
  | cons n l ih =>
    intro r
    rw [List.foldl_cons, ih]
    simp [ByteArray.push]
theorem byteAt_spec {g : NV → List SV} {i : Nat} {v : Value} (h : bytesOk g (.s i) = true) (hr : Rep w I Vln.no ((g (.s i)).getD 0 .any) v) : v = .int .u8 (byteAt g i) := by
  unfold bytesOk at h
  split at h
  · rename_i x hx
    rw [hx] at hr
    cases hr
    simp [byteAt, hx]
  · rename_i x hx
    rw [hx] at hr
    cases hr
    simp [byteAt, hx]
  · cases h
theorem convStr_ok {src dst e : TypeId} {x r : SV} {u : Value} {p : Prop} {rd : List Nat} (hs : P.underlying src = some (.slice e)) (he : P.underlying e = some (.int .u8)) (hd : P.underlying dst = some .string)
    (h : convStr Ar.real hp x = some (p, r, rd)) (hpp : p) (hx : Rep w I β x u) (hh : Hp cx I β hp nx w) : ∃ z, (convert src dst u).run P w = .ok z w ∧ Rep w I β r z := by
  unfold convStr at h
  split at h
  · rename_i q m g rd' hsrc
    cases h
    obtain ⟨hq, hb⟩ := hpp
    obtain ⟨arr, hS⟩ := srcSV_ok (P := P) (by decide) hsrc hq hx hh
    obtain ⟨A, c, rfl⟩ := hS.val
    rw [run_convert_bytes_string w src dst e A m.val c hs he hd]
    have harr : arr.toList = (List.range m.val).map fun i => Value.int .u8 (byteAt g i) := by
      apply List.ext_getElem?
      intro i
      by_cases hi : i < m.val
      · have hr := hS.rep (.s i) 0 hi (by decide)
        have := byteAt_spec (hb (.s i) hi) hr
        simp only [NV.val, Nat.mul_one, Nat.add_zero] at this
        have hsz : i < arr.size := by rw [hS.size]; omega
        rw [Array.getD_eq_getD_getElem?, Array.getElem?_eq_getElem hsz] at this
        simp [hi, hsz]
        exact this
      · have hsz : arr.size ≤ i := by rw [hS.size]; omega
        rw [List.getElem?_eq_none (by simpa using hsz), List.getElem?_eq_none (by simp; omega)]
    cases A with
    | none =>
      have hm : m.val = 0 := by
        rcases Nat.eq_zero_or_pos m.val with h0 | h0
        · exact h0
        · obtain ⟨a, h, _⟩ := hS.cell none c rfl 0 (by omega)
          cases h
      refine ⟨.string ByteArray.empty, by simp [Conv.bytesToString], ?_⟩
      have : Ar.real.bytes m.val (byteAt g) = [] := by simp [Ar.real, hm]
      rw [this]
      exact .str []
    | some a =>
      have hl : (loadCells a m.val).run P w = .ok (((List.range m.val).map (byteAt g)).map (Value.int .u8)).toArray w := by
        have := hS.run w rfl
        simp only [Builtin.firstCells, Nat.mul_one] at this
        rw [this]
        congr 1
        apply Array.toList_inj.1
        rw [harr]
        simp
      refine ⟨_, run_bytesToString w a m.val c _ hl, ?_⟩
      have e : ByteArray.mk (Ar.real.bytes m.val (byteAt g)).toArray = ((List.range m.val).map (byteAt g)).foldl (fun r n => r.push (UInt8.ofNat n.toNat)) ByteArray.empty := by
        have h1 := foldl_push ((List.range m.val).map (byteAt g)) ByteArray.empty
        have h2 : ∀ (x : ByteArray) (l : List UInt8), x.data.toList = l → ByteArray.mk l.toArray = x := by
          intro x l h; subst h; simp
        refine h2 _ _ ?_
        rw [h1]
        simp [Ar.real]
      rw [← e]
      exact .str _
  · cases h
end
def lenOfSV (A : Ar) (x : SV) : Option SV :=
  match x with
  | .nils => some (.lit .i64 0)
  | .ro _ n _ => some (lenSV A n)
  | .sl _ _ _ n => some (lenSV A n)
  | _ => none
def maxSV (A : Ar) (mx : Bool) (x y : SV) : Option SV :=
  match x, y with
  | .lit k a, .lit k' b => match mx with
    | true => some (.lit k (if b > a then b else a))
    | false => some (.lit k (if b < a then b else a))
  | x, y => match intOfSV x, intOfSV y with
    | some (k, a), some (_, b) => match mx with
      | true => some (.int k (A.max a b))
      | false => some (.int k (A.min a b))
    | _, _ => none
section
variable {P : Program} {cx : Cx} {w : World} {I : Nat → Prop} {β : Vln} {hp : HF} {nx : Nat}
theorem lenSV_rep (n : NV) : Rep w I β (lenSV Ar.real n) (.int .i64 (n.val : Int)) := by
  cases n
  · exact .lit _ _
  · exact .int _ _
theorem lenOfSV_ok {t e ty : TypeId} {x r : SV} {u : Value} (ht : P.underlying t = some (.slice e)) (h : lenOfSV Ar.real x = some r) (hx : Rep w I β x u) : ∃ z, (Builtin.len_ #[t] ty #[u]).run P w = .ok z w ∧ Rep w I β r z := by
  have key : ∀ (A : Option Addr) (n c : Nat), (Builtin.len_ #[t] ty #[.slice A n c]).run P w = .ok (.int .i64 (n : Int)) w := by
    intro A n c
    simp [Builtin.len_, run_underlying ht, goInt]
  unfold lenOfSV at h
  split at h <;> cases h
  · cases hx; exact ⟨_, key _ _ _, .lit _ _⟩
  · cases hx with
    | ro0 _ _ hn _ A c => exact ⟨_, key _ _ _, by rw [← hn]; exact lenSV_rep _⟩
    | ro hI hc hlen u h1 hcell hrep => exact ⟨_, key _ _ _, lenSV_rep _⟩
  · cases hx with
    | sl0 hl A => exact ⟨_, key _ _ _, by rw [← hl]; exact lenSV_rep _⟩
    | sl hb hc hl ho => exact ⟨_, key _ _ _, lenSV_rep _⟩
theorem maxSV_ok {mx : Bool} {x y r : SV} {u v : Value} (h : maxSV Ar.real mx x y = some r) (hx : Rep w I β x u) (hy : Rep w I β y v) (ats : Array TypeId) (ty : TypeId) :
    ∃ z, (match mx with | true => Builtin.max_ ats ty #[u, v] | false => Builtin.min_ ats ty #[u, v]).run P w = .ok z w ∧ Rep w I β r z := by
  have kmax : ∀ (k k' : IntKind) (a b : Int), (Builtin.max_ ats ty #[.int k a, .int k' b]).run P w = .ok (.int k (if b > a then b else a)) w := by
    intro k k' a b; simp [Builtin.max_, Builtin.max2]
  have kmin : ∀ (k k' : IntKind) (a b : Int), (Builtin.min_ ats ty #[.int k a, .int k' b]).run P w = .ok (.int k (if b < a then b else a)) w := by
    intro k k' a b; simp [Builtin.min_, Builtin.min2]
  unfold maxSV at h
  split at h
  · cases hx; cases hy
    split at h <;> cases h
    · exact ⟨_, kmax _ _ _ _, .lit _ _⟩
    · exact ⟨_, kmin _ _ _ _, .lit _ _⟩
  · split at h
    · rename_i hi hj
      obtain rfl := intOfSV_spec hx hi
      obtain rfl := intOfSV_spec hy hj
      split at h <;> cases h
      · exact ⟨_, kmax _ _ _ _, .int _ _⟩
      · exact ⟨_, kmin _ _ _ _, .int _ _⟩
    · cases h
theorem convMark_ok {t e : TypeId} (ht : P.underlying t = some (.slice e)) (he : P.underlying e = some (.int .u8)) {i sz : Nat} {off len : NV} {u : Value} {bt : TypeId} {k : NV} {f : NV → List SV}
    (hb : hp i = some (.row bt sz k f)) (hx : Rep w I β (.sl i sz off len) u) (hh : Hp cx I β hp nx w) (hz : 0 < len.val) :
    ∃ w', (convert t t u).run P w = .ok u w' ∧ Hp cx I β hp nx w' ∧ (∀ b, I b → w'.heap[b]? = w.heap[b]?) := by
  cases hx with
  | sl0 hl A => omega
  | @sl _ _ _ b C o c _ _ hbi hc hl ho =>
    obtain ⟨vs, fz, k1, k2, k3, k4, k5, k7, k6⟩ := hh.own hb hbi
    have hbl : b < w.heap.size := (Array.getElem?_eq_some_iff.1 k1).1
    have hnotI : ¬ I b := by
      rcases hh.blk _ _ hb with ⟨b2, C2, q1, q2, q3, q4⟩ | ⟨q1, _⟩
      · rw [hbi] at q1; cases q1; exact q3
      · rw [hbi] at q1; cases q1
    have hsh : w.shape? b = some (bt, vs.size) := by unfold World.shape?; rw [k1]
    have hother : ∀ b', b' ≠ b → (w.freeze ⟨b, vs.size, none⟩ 1).heap[b']? = w.heap[b']? := by
      intro b' hb'
      unfold World.freeze
      rw [if_neg (by decide)]
      simp only [Array.getElem?_modify]
      rw [if_neg (Ne.symm hb')]
    have hsame : ∃ fz', (w.freeze ⟨b, vs.size, none⟩ 1).heap[b]? = some (.cells vs bt fz') ∧ NoFz vs.size fz' := by
      unfold World.freeze
      rw [if_neg (by decide)]
      simp only [Array.getElem?_modify, if_true]
      rw [k1]
      simp only [Option.map_some]
      refine ⟨_, rfl, ?_⟩
      obtain ⟨lo, hi⟩ := fz
      unfold NoFz at k2 ⊢
      split
      · exact .inr (Nat.le_refl _)
      · rename_i hne
        have hne : lo ≠ hi := by simpa using hne
        right
        rcases k2 with k2 | k2
        · exact absurd k2 hne
        · simp only [Nat.min_def]
          split <;> omega
    obtain ⟨fz', g1, g2⟩ := hsame
    have hIw : ∀ b', I b' → (w.freeze ⟨b, vs.size, none⟩ 1).heap[b']? = w.heap[b']? := fun b' hb' => hother b' (fun e => hnotI (e ▸ hb'))
    have hfs : (w.freeze ⟨b, vs.size, none⟩ 1).heap.size = w.heap.size := by unfold World.freeze; rw [if_neg (by decide)]; simp
    have hturn := hh.turn (w' := w.freeze ⟨b, vs.size, none⟩ 1) (y := .row bt sz k f) hb hbi (by unfold World.freeze; rw [if_neg (by decide)]) (by unfold World.freeze; rw [if_neg (by decide)]) (by unfold World.freeze; rw [if_neg (by decide)]) hfs hother
      ⟨vs, fz', g1, g2, k3, k4, k5, k7, fun e j he hj => (k6 e j he hj).mono (fun _ h => h) hIw (fun _ _ h => h)⟩
    have hid : hp.upd i (some (.row bt sz k f)) = hp := by
      funext q; unfold HF.upd; split
      · rename_i e; rw [e, hb]
      · rfl
    rw [hid] at hturn
    exact ⟨_, by simp [convert, run_underlying ht, run_underlying he, markStringish, hsh], hturn, hIw⟩
end
end Go.Eng
/-
  The symbolic executor: one operation.
-/
namespace Go.Eng
inductive Eff where
  | none
  | new (x : Blk) (fz : List Nat)
  | turn (i : Nat) (y : Blk) (fz : List Nat)
  | app (id : Option Nat) (x : Blk)
structure OpOut where
  obl : Prop
  val : SV
  rd : List Nat
  eff : Eff
def HF.after (hp : HF) (n : Nat) : Eff → HF
  | .none => hp
  | .new x fz => (hp.gone fz).upd n (some x)
  | .turn i y fz => (hp.gone fz).upd i (some y)
  | .app id x => ((match id with | some i => hp.upd i none | none => hp)).upd n (some x)
def out1 (r : PR) : Option OpOut :=
  match r with
  | some (p, s) => some ⟨p, s, [], .none⟩
  | none => none
def outR (r : PRR) : Option OpOut :=
  match r with
  | some (p, s, rd) => some ⟨p, s, rd, .none⟩
  | none => none
def outS (r : Option SV) : Option OpOut :=
  match r with
  | some s => some ⟨True, s, [], .none⟩
  | none => none
def szOk (sz : Nat) (x : SV) : Bool :=
  match x with
  | .ro sz' _ _ => Nat.beq sz' sz
  | .sl _ sz' _ _ => Nat.beq sz' sz
  | _ => true
def nonNil (x : SV) : Bool :=
  match x with
  | .ptr _ _ | .pe _ _ _ _ | .rp _ | .ra _ _ _ => true
  | _ => false
def opBin (T : Tab) (A : Ar) (op : BinOp) (t : Nat) (x y : SV) : Option OpOut :=
  match T.get t with
  | some ti => match eqSafe x with
    | true => out1 (binSV A ti.shape op x y)
    | false => none
  | none => none
def opConv (T : Tab) (A : Ar) (hp : HF) (src dst : Nat) (x : SV) : Option OpOut :=
  match T.get src, T.get dst with
  | some ts, some td => match td.shape with
    | .int k => outS (convInt A k x)
    | .str => match ts.shape with
      | .slice e => match T.get e with
        | some te => match te.shape with
          | .int .u8 => outR (convStr A hp x)
          | _ => none
        | none => none
      | _ => none
    | .slice e => match Nat.beq src dst, T.get e with
      | true, some te => match te.shape, x with
        | .int .u8, .sl i sz off len => match hp i with
          | some (.row bt sz' k f) => match Nat.beq sz' sz with
            | true => some ⟨ltO A (.l 0) len, x, [i], .turn i (.row bt sz' k f) []⟩
            | false => none
          | _ => none
        | _, _ => none
      | _, _ => none
    | _ => none
  | _, _ => none
def elemOfSh (sh : Shape) : Option Nat :=
  match sh with
  | .slice e => some e
  | _ => none
def opCall (T : Tab) (A : Ar) (hp : HF) (n : Nat) (b : Builtin) (ats : List Nat) (args : List SV) : Option OpOut :=
  match b with
  | .len => match ats, args with
    | [t], [x] => match T.get t with
      | some ti => match elemOfSh ti.shape with
        | some _ => outS (lenOfSV A x)
        | none => none
      | none => none
    | _, _ => none
  | .max => match args with
    | [x, y] => outS (maxSV A true x y)
    | _ => none
  | .min => match args with
    | [x, y] => outS (maxSV A false x y)
    | _ => none
  | .append => match ats, args with
    | [t, t'], [s, x] => match Nat.beq t t', T.get t with
      | true, some ti => match elemOfSh ti.shape with
        | some e => match T.get e with
          | some te => match appendSV A hp e te s x with
            | some o => some ⟨o.obl, .sl n te.size (.l 0) o.n, o.rd, .app o.id (.row e te.size o.n o.f)⟩
            | none => none
          | none => none
        | none => none
      | _, _ => none
    | _, _ => none
  | _ => none
def opFun (T : Tab) (A : Ar) (hp : HF) (n : Nat) (ev : Operand → SV) (op : Op) : Option OpOut :=
  match op with
  | .move x => some ⟨True, ev x, [], .none⟩
  | .assign x => some ⟨True, ev x, [], .none⟩
  | .pick c a b => outS (pickSV A (ev c) (ev a) (ev b))
  | .alloc t => match T.get t with
    | some ti => some ⟨True, .ptr n 0, [], .new (.cells t ti.zero) []⟩
    | none => none
  | .box t x => match cellsSV (ev x) with
    | some cs => some ⟨True, .ptr n 0, [], .new (.cells t cs) []⟩
    | none => none
  | .build t parts => match T.get t with
    | some ti => outS (buildSV T ti (parts.toList.map fun p => (p.1, ev p.2)))
    | none => none
  | .buildSlice t len parts => match T.get t with
    | some ti => match elemOfSh ti.shape with
      | some e => match T.get e with
        | some te => match buildSliceSV A hp te len (parts.toList.map fun p => (p.1, ev p.2)) with
          | some (p, cs, fz) => some ⟨p, .sl n te.size (.l 0) (.l len), [], .new (.row e te.size (.l len) (chunkS A te.size cs)) fz⟩
          | none => none
        | none => none
      | none => none
    | none => none
  | .load t a => match T.get t with
    | some ti => match loadRp ti (ev a) with
      | some r => some ⟨True, r, [], .none⟩
      | none => outR (loadOwn A hp ti (ev a))
    | none => none
  | .store t a v => match T.get t with
    | some ti => match storeOwn A hp ti (ev a) (ev v) with
      | some (p, i, y, fz) => some ⟨p, .any, [i], .turn i y fz⟩
      | none => none
    | none => none
  | .nilCheck x => match nonNil (ev x) with
    | true => some ⟨True, ev x, [], .none⟩
    | false => none
  | .binOp op t x y _ => opBin T A op t (ev x) (ev y)
  | .unOp op _ x => out1 (unSV A op (ev x))
  | .convert src dst x => opConv T A hp src dst (ev x)
  | .makeSlice t l c => match T.get t with
    | some ti => match elemOfSh ti.shape with
      | some e => match T.get e with
        | some te => match makeSV A te (ev l) (ev c) with
          | some (p, m) => some ⟨p, .sl n te.size (.l 0) m, [], .new (.row e te.size m (fun _ => te.zero)) []⟩
          | none => none
        | none => none
      | none => none
    | none => none
  | .slice t x lo hi mx => match T.get t with
    | some ti => match elemOfSh ti.shape with
      | some e => match T.get e with
        | some te => match szOk te.size (ev x) with
          | true => out1 (sliceSV A (ev x) (lo.map ev) (hi.map ev) (mx.map ev))
          | false => none
        | none => none
      | none => none
    | none => none
  | .fieldAddr s x f => match T.get s with
    | some ti => match fieldOff ti.shape f with
      | some (off, ty) => match T.get ty with
        | some tf => match Nat.blt 0 tf.size with
          | true => outS (fieldAddrSV off (ev x))
          | false => none
        | none => none
      | none => none
    | none => none
  | .field s x f => match T.get s with
    | some ti => match fieldOff ti.shape f with
      | some (off, ty) => match T.get ty, ev x with
        | some tf, .agg cs => outS (partSV (isAggSh tf.shape) tf.size cs off)
        | _, _ => none
      | none => none
    | none => none
  | .indexAddr t x i => match T.get t with
    | some ti => match ti.shape with
      | .slice e => match T.get e with
        | some te => match szOk te.size (ev x) with
          | true => out1 (indexAddrSV A (ev x) (ev i))
          | false => none
        | none => none
      | .array m e => match T.get e with
        | some te => out1 (arrayAddrSV A m te.size (ev x) (ev i))
        | none => none
      | _ => none
    | none => none
  | .index t x i => match T.get t, ev x, ev i with
    | some ti, .agg cs, .lit _ (.ofNat k) => match ti.shape with
      | .array m e => match T.get e, Nat.blt k m with
        | some te, true => outS (partSV (isAggSh te.shape) te.size cs (k * te.size))
        | _, _ => none
      | _ => none
    | _, _, _ => none
  | .extract x i => outS (extractSV (ev x) i)
  | .call c => match c.callee with
    | .builtin b => opCall T A hp n b c.argTypes.toList (c.args.toList.map ev)
    | _ => none
  | _ => none
section
variable {P : Program} {cx : Cx} {w : World} {I : Nat → Prop} {β : Vln} {hp : HF} {nx : Nat}
def Did (P : Program) (cx : Cx) (I : Nat → Prop) (β : Vln) (hp : HF) (nx : Nat) (w : World) (n : Nat) (out : OpOut) (s : Sem Next) : Prop :=
  ∃ nxt v w' I' β', s.run P w = .ok nxt w' ∧ (nxt = .value v ∨ (nxt = .skip ∧ v = undef)) ∧ Rep w' I' β' out.val v ∧ Hp cx I' β' (hp.after n out.eff) nx w' ∧ (∀ b, I b → I' b) ∧
    (∀ b, I b → w'.heap[b]? = w.heap[b]?) ∧ (∀ i y, β i = some y → β' i = some y) ∧ (∀ i, i ≠ n → β' i = β i)
theorem Did.still {n : Nat} {p : Prop} {r : SV} {rd : List Nat} {s : Sem Value} (hh : Hp cx I β hp nx w) (h : ∃ z, s.run P w = .ok z w ∧ Rep w I β r z) : Did P cx I β hp nx w n ⟨p, r, rd, .none⟩ (do pure (.value (← s))) := by
  obtain ⟨z, h1, h2⟩ := h
  exact ⟨.value z, z, w, I, β, by simp [h1], .inl rfl, h2, hh, fun _ h => h, fun _ _ => rfl, fun _ _ h => h, fun _ _ => rfl⟩
theorem Did.made {n C : Nat} {p : Prop} {r : SV} {rd : List Nat} {x : Blk} {fz : List Nat} {s : Sem Value} {I' : Nat → Prop} {z : Value} {w' : World} (h : s.run P w = .ok z w') (hm : Made cx I' β (hp.gone fz) nx w n x C w')
    (hI : ∀ b, I b → I' b) (hr : Rep w' I' (β.put n w.heap.size C) r z) : Did P cx I β hp nx w n ⟨p, r, rd, .new x fz⟩ (do pure (.value (← s))) :=
  ⟨.value z, z, w', I', _, by simp [h], .inl rfl, hr, hm.hp, hI, fun b hb => hm.keep b (hI b hb), hm.ext, fun i hi => by simp only [Vln.put, if_neg hi]⟩
theorem gone_none (fz : List Nat) : ∀ (hp : HF) (n : Nat), hp n = none → hp.gone fz n = none := by
  induction fz with
  | nil => intro hp n h; exact h
  | cons k r ih =>
    intro hp n h
    refine ih _ _ ?_
    unfold HF.upd
    split
    · rfl
    · exact h
theorem outS_some {r : Option SV} {out : OpOut} (h : outS r = some out) : ∃ s, r = some s ∧ out = ⟨True, s, [], .none⟩ := by
  cases r with
  | none => cases h
  | some s => cases h; exact ⟨s, rfl, rfl⟩
theorem out1_some {r : PR} {out : OpOut} (h : out1 r = some out) : ∃ p s, r = some (p, s) ∧ out = ⟨p, s, [], .none⟩ := by
  cases r with
  | none => cases h
  | some s => obtain ⟨p, s⟩ := s; cases h; exact ⟨p, s, rfl, rfl⟩
theorem outR_some {r : PRR} {out : OpOut} (h : outR r = some out) : ∃ p s rd, r = some (p, s, rd) ∧ out = ⟨p, s, rd, .none⟩ := by
  cases r with
  | none => cases h
  | some s => obtain ⟨p, s, rd⟩ := s; cases h; exact ⟨p, s, rd, rfl, rfl⟩
theorem elemOfSh_some {d : TypeDesc} {e : Nat} (h : elemOfSh (shapeOf d) = some e) : d = .slice e := by
  cases d <;> simp [shapeOf, elemOfSh] at h
  rw [h]
theorem pickSV_ok {c x y r : SV} {cv xv yv : Value} (h : pickSV Ar.real c x y = some r) (hc : Rep w I β c cv) (hx : Rep w I β x xv) (hy : Rep w I β y yv) :
    ∃ z, ((do pure (if ← asBool cv then xv else yv)) : Sem Value).run P w = .ok z w ∧ Rep w I β r z := by
  unfold pickSV at h
  split at h <;> cases h <;> cases hc
  · exact ⟨xv, by simp [asBool], hx⟩
  · exact ⟨yv, by simp [asBool], hy⟩
  · rename_i b
    refine ⟨if b then xv else yv, by simp [asBool], mergeSV_ok 4 (fun h => ?_) (fun h => ?_)⟩
    · rw [h]; exact hx
    · rw [h]; exact hy
theorem opBin_ok {T : Tab} (hT : T.Ok P) {op : BinOp} {t : Nat} {X Y : Operand} {x y : SV} {u v : Value} {out : OpOut} {n : Nat} (h : opBin T Ar.real op t x y = some out) (hpp : out.obl) (hx : Rep w I β x u) (hy : Rep w I β y v) (hh : Hp cx I β hp nx w) :
    Did P cx I β hp nx w n out (do let z ← (do eqGuard op t X Y u v; binOp op t u v); pure (.value z)) := by
  unfold opBin at h
  split at h
  · rename_i ti hti
    split at h
    · rename_i hsafe
      obtain ⟨p, s, hb, rfl⟩ := out1_some h
      obtain ⟨inf, d, z0, hi, hd, hz, hsz, hby, hzero, hsh⟩ := tiOf_spec (hT.get hti)
      have hg := eqGuard_ok (P := P) (op := op) (t := t) (X := X) (Y := Y) (v := v) hx hsafe
      have key : ∃ z, (binOp op t u v).run P w = .ok z w ∧ Rep w I β s z := by
        unfold binSV at hb
        split at hb
        · exact shiftSV_ok t hb hpp hx hy
        · exact shiftSV_ok t hb hpp hx hy
        · split at hb
          · rename_i r hr
            cases hb
            exact binInt_ok t hr hpp hx hy
          · split at hb
            · cases he : eqSV Ar.real ti.shape x y with
              | none => rw [he] at hb; cases hb
              | some r =>
                rw [he] at hb
                cases hb
                obtain ⟨z, h1, h2, h3⟩ := eqSV_ok (t := t) hd hsh he hx hy
                exact ⟨_, h1, h3⟩
            · cases he : eqSV Ar.real ti.shape x y with
              | none => rw [he] at hb; cases hb
              | some r =>
                rw [he] at hb
                obtain ⟨z, h1, h2, h3⟩ := eqSV_ok (t := t) hd hsh he hx hy
                cases hn : notSV Ar.real r with
                | none => simp [hn] at hb
                | some r' =>
                  simp [hn] at hb
                  obtain ⟨_, rfl⟩ := hb
                  exact ⟨_, h2, notSV_ok hn h3⟩
            · cases hb
      obtain ⟨z, h1, h2⟩ := key
      refine Did.still (s := do eqGuard op t X Y u v; binOp op t u v) hh ⟨z, ?_, h2⟩
      simp only [Sem.run_bind, hg, Result.andThen_ok, h1]
    · cases h
  · cases h
end
end Go.Eng
/-
  The symbolic executor: one operation, as the model runs it.
-/
namespace Go.Eng
section
variable {P : Program} {cx : Cx} {w : World} {I : Nat → Prop} {β : Vln} {hp : HF} {nx : Nat}
theorem fieldOff_some {d : TypeDesc} {f off ty : Nat} (h : fieldOff (shapeOf d) f = some (off, ty)) : ∃ fa fld, d = .struct fa ∧ fa[f]? = some fld ∧ fld.offset = off ∧ fld.type = ty := by
  cases d <;> simp [shapeOf, fieldOff] at h
  rename_i fa
  obtain ⟨fld, h1, h2, h3⟩ := h
  exact ⟨fa, fld, rfl, h1, h2, h3⟩
theorem nonNil_spec {s : SV} {v : Value} (h : Rep w I β s v) (hs : nonNil s = true) : ∃ b, v = .pointer (some b) := by
  cases h <;> first | exact ⟨_, rfl⟩ | (simp [nonNil] at hs)
theorem run_part_known {t : TypeId} {inf : TypeInfo} {d : TypeDesc} {cs : List SV} {vs : Array Value} {r : SV} {off : Nat} (hd : P.underlying t = some d) (hi : P.info? t = some inf)
    (h : partSV (isAggSh (shapeOf d)) inf.size cs off = some r) (hl : vs.size = cs.length) (hr : ∀ j, j < cs.length → Rep w I β (cs.getD j .any) (vs.getD j undef)) :
    ∃ z, (part t vs off).run P w = .ok z w ∧ Rep w I β r z := by
  unfold partSV at h
  split at h
  · rename_i ha
    split at h
    · rename_i hle
      cases h
      refine ⟨.agg (vs.extract off (off + inf.size)), by simp [part, run_isAgg hd, ha, sizeOf, typeInfo, hi], ?_⟩
      refine .agg (by simp; omega) (fun j hj => ?_)
      simp at hj
      rw [take_getD _ _ _ _ (by omega), drop_getD]
      have : (vs.extract off (off + inf.size)).getD j undef = vs.getD (off + j) undef := by
        simp only [Array.getD_eq_getD_getElem?]
        rw [Array.getElem?_extract]
        rw [if_pos (by omega)]
      rw [this]
      exact hr _ (by omega)
    · cases h
  · rename_i ha
    split at h
    · rename_i hlt
      cases h
      have hv : off < vs.size := by omega
      refine ⟨vs[off], by simp [part, run_isAgg hd, ha, hv], ?_⟩
      have := hr off hlt
      rwa [Array.getD_eq_getD_getElem?, Array.getElem?_eq_getElem hv] at this
    · cases h
theorem exec1 (a : Act) (dst : Option Tmp) (b : Builtin) (X : Operand) (ats : Array TypeId) (type : TypeId) (pos : String) (after : Array Edge) (guard : Option (Nat × Bool)) :
    ∃ cs, execOp a.eval { dst := dst, op := .call { callee := .builtin b, args := #[X], argTypes := ats }, type := type, pos := pos, after := after, guard := guard } = builtin b ats type cs #[a.eval X] := by
  have e : Array.map a.eval #[X] = #[a.eval X] := by simp
  have h : ∃ cs, execOp a.eval { dst := dst, op := .call { callee := .builtin b, args := #[X], argTypes := ats }, type := type, pos := pos, after := after, guard := guard } = builtin b ats type cs (Array.map a.eval #[X]) := ⟨_, rfl⟩
  rwa [e] at h
theorem exec2 (a : Act) (dst : Option Tmp) (b : Builtin) (X Y : Operand) (ats : Array TypeId) (type : TypeId) (pos : String) (after : Array Edge) (guard : Option (Nat × Bool)) :
    ∃ cs, execOp a.eval { dst := dst, op := .call { callee := .builtin b, args := #[X, Y], argTypes := ats }, type := type, pos := pos, after := after, guard := guard } = builtin b ats type cs #[a.eval X, a.eval Y] := by
  have e : Array.map a.eval #[X, Y] = #[a.eval X, a.eval Y] := by simp
  have h : ∃ cs, execOp a.eval { dst := dst, op := .call { callee := .builtin b, args := #[X, Y], argTypes := ats }, type := type, pos := pos, after := after, guard := guard } = builtin b ats type cs (Array.map a.eval #[X, Y]) := ⟨_, rfl⟩
  rwa [e] at h
set_option maxHeartbeats 1000000 in
theorem opFun_ok {T : Tab} (hT : T.Ok P) {ev : Operand → SV} {a : Act} {o : Oper} {out : OpOut} {n : Nat} (h : opFun T Ar.real hp n ev o.op = some out) (hpp : out.obl) (hev : ∀ x, Rep w I β (ev x) (a.eval x))
    (hh : Hp cx I β hp nx w) (hn : β n = none) (hin : hp n = none) (hnx : n < nx) : Did P cx I β hp nx w n out (execOp a.eval o) := by
  obtain ⟨dst, op, type, pos, after, guard⟩ := o
  simp only at h
  cases op <;> simp only [opFun] at h
  case move x =>
    cases h
    exact ⟨_, _, w, I, β, rfl, .inl rfl, hev x, hh, fun _ h => h, fun _ _ => rfl, fun _ _ h => h, fun _ _ => rfl⟩
  case assign x =>
    cases h
    exact ⟨_, _, w, I, β, rfl, .inl rfl, hev x, hh, fun _ h => h, fun _ _ => rfl, fun _ _ h => h, fun _ _ => rfl⟩
  case pick c x y =>
    obtain ⟨s, hs, rfl⟩ := outS_some h
    obtain ⟨z, h1, h2⟩ := pickSV_ok (P := P) hs (hev c) (hev x) (hev y)
    refine ⟨.value z, z, w, I, β, ?_, .inl rfl, h2, hh, fun _ h => h, fun _ _ => rfl, fun _ _ h => h, fun _ _ => rfl⟩
    show (do pure (.value (if ← asBool (a.eval c) then a.eval x else a.eval y)) : Sem Next).run P w = _
    simp only [Sem.run_bind, Sem.run_pure] at h1 ⊢
    cases hb : (asBool (a.eval c)).run P w with
    | halt q w' => rw [hb] at h1; cases h1
    | ok q w' =>
      rw [hb] at h1
      simp only [Result.andThen_ok] at h1 ⊢
      cases h1
      rfl
  case alloc t =>
    split at h
    · rename_i ti hti
      cases h
      obtain ⟨inf, d, z0, hi, hd, hz, hsz, hby, hzero, hsh⟩ := tiOf_spec (hT.get hti)
      have hm := made_cells hh hn hin hnx t (cs := ti.zero) (vs := z0.cells) (by rw [hzero]; simp) (fun j hj => by rw [hzero] at hj ⊢; exact zero_rep j hj) 0
      exact Did.made (fz := []) (run_alloc hi hz) hm (fun _ h => h) (.ptr (C := 0) (by simp only [Vln.put, if_true]))
    · cases h
  case box t x =>
    split at h
    · rename_i cs hcs
      cases h
      obtain ⟨c1, c2, c3⟩ := cellsSV_spec (hev x) hcs
      have hm := made_cells hh hn hin hnx t (cs := cs) (vs := (a.eval x).cells) c1 c2 0
      exact Did.made (fz := []) run_box hm (fun _ h => h) (.ptr (C := 0) (by simp only [Vln.put, if_true]))
    · cases h
  case build t parts =>
    split at h
    · rename_i ti hti
      obtain ⟨s, hs, rfl⟩ := outS_some h
      have := buildSV_ok (w := w) (I := I) (β := β) hT (vs := parts.toList.map fun p => (p.1, a.eval p.2)) (hT.get hti) hs (by simp) (fun j hj hj' => by simp; exact hev _)
      obtain ⟨z, h1, h2⟩ := this
      refine Did.still hh ⟨z, ?_, h2⟩
      rw [← h1]
      congr 2
      apply Array.toList_inj.1
      simp
    · cases h
  case buildSlice t len parts =>
    split at h
    · rename_i ti hti
      split at h
      · rename_i e he
        split at h
        · rename_i te hte
          split at h
          · rename_i p cs fz hb
            cases h
            obtain ⟨inf, d, z0, hi, hd, hz, hsz, hby, hzero, hsh⟩ := tiOf_spec (hT.get hti)
            rw [hsh] at he
            have hd' := elemOfSh_some he
            subst hd'
            obtain ⟨w', I', h1, h2, h3⟩ := buildSliceSV_ok (w := w) (I := I) (β := β) hT (t := t) (vs := parts.toList.map fun p => (p.1, a.eval p.2)) hd (hT.get hte) hb hpp (by simp) (fun j hj hj' => by simp; exact hev _) hh hn (gone_none fz hp n hin) hnx
            refine Did.made (fz := fz) (w' := w') ?_ h2 h3 (.sl (b := w.heap.size) (C := len) (c := len) (o := 0) (off := .l 0) (len := .l len) (by simp only [Vln.put, if_true]) (Nat.zero_add _) (Nat.le_refl _) (fun _ => (Nat.zero_mul _).symm))
            refine Eq.trans ?_ h1
            congr 2
            apply Array.toList_inj.1
            simp
          · cases h
        · cases h
      · cases h
    · cases h
  case load t x =>
    split at h
    · rename_i ti hti
      split at h
      · rename_i r hr
        cases h
        exact Did.still hh (loadRp_ok (hT.get hti) hr (hev x))
      · obtain ⟨p, s, rd, hs, rfl⟩ := outR_some h
        exact Did.still hh (loadOwn_ok (hT.get hti) hs hpp (hev x) hh)
    · cases h
  case store t x v =>
    split at h
    · rename_i ti hti
      split at h
      · rename_i p i y fz hs
        cases h
        obtain ⟨w', I', h1, h2, h3, h4⟩ := storeOwn_ok (hT.get hti) hs hpp (hev x) (hev v) hh
        refine ⟨.skip, undef, w', I', β, ?_, .inr ⟨rfl, rfl⟩, .any _, h2, h3, h4, fun _ _ h => h, fun _ _ => rfl⟩
        show (do Instr.storeAt t (a.eval x) (a.eval v); pure .skip : Sem Next).run P w = _
        simp only [Sem.run_bind, h1, Result.andThen_ok, Sem.run_pure]
      · cases h
    · cases h
  case nilCheck x =>
    split at h
    · rename_i hnn
      cases h
      have hx := hev x
      obtain ⟨b, hb⟩ := nonNil_spec hx hnn
      refine ⟨.value (a.eval x), a.eval x, w, I, β, ?_, .inl rfl, hx, hh, fun _ h => h, fun _ _ => rfl, fun _ _ h => h, fun _ _ => rfl⟩
      simp only [execOp, hb]
      rfl
    · cases h
  case binOp op t x y yt => exact opBin_ok hT h hpp (hev x) (hev y) hh
  case unOp op t x =>
    obtain ⟨p, s, hs, rfl⟩ := out1_some h
    exact Did.still hh (unSV_ok hs hpp (hev x))
  case convert src dst x =>
    unfold opConv at h
    split at h
    · rename_i ts td hts htd
      obtain ⟨inf, d, z0, hi, hd, hz, hsz, hby, hzero, hsh⟩ := tiOf_spec (hT.get hts)
      obtain ⟨inf', d', z0', hi', hd', hz', hsz', hby', hzero', hsh'⟩ := tiOf_spec (hT.get htd)
      split at h
      · rename_i k hk
        obtain ⟨s, hs, rfl⟩ := outS_some h
        rw [hsh'] at hk
        have : d' = .int k := by cases d' <;> simp [shapeOf] at hk; rw [hk]
        subst this
        exact Did.still hh (convInt_ok hd hd' hs (hev x))
      · rename_i hk
        split at h
        · rename_i e he
          split at h
          · rename_i te hte
            split at h
            · rename_i h8
              obtain ⟨p, s, rd, hs, rfl⟩ := outR_some h
              obtain ⟨inf2, d2, z2, hi2, hd2, hz2, hsz2, hby2, hzero2, hsh2⟩ := tiOf_spec (hT.get hte)
              rw [hsh'] at hk
              rw [hsh] at he
              rw [hsh2] at h8
              have e1 : d' = .string := by cases d' <;> simp [shapeOf] at hk; rfl
              have e2 : d = .slice e := by cases d <;> simp [shapeOf] at he; rw [he]
              have e3 : d2 = .int .u8 := by cases d2 <;> simp [shapeOf] at h8; rw [h8]
              subst e1 e2 e3
              exact Did.still hh (convStr_ok hd hd2 hd' hs hpp (hev x) hh)
            · cases h
          · cases h
        · cases h
      · rename_i e he
        split at h
        · rename_i te hsame hte
          split at h
          · rename_i i sz off len h8 hxv
            split at h
            · rename_i bt sz' k f hbk
              split at h
              · rename_i hszb
                have hszb : sz' = sz := Nat.eq_of_beq_eq_true hszb
                subst hszb
                have hsame : src = dst := Nat.eq_of_beq_eq_true hsame
                subst hsame
                cases h
                obtain ⟨inf2, d2, z2, hi2, hd2, hz2, hsz2, hby2, hzero2, hsh2⟩ := tiOf_spec (hT.get hte)
                rw [hsh'] at he
                rw [hsh2] at h8
                have e2 : d' = .slice e := by cases d' <;> simp [shapeOf] at he; rw [he]
                have e3 : d2 = .int .u8 := by cases d2 <;> simp [shapeOf] at h8; rw [h8]
                subst e2 e3
                have hx := hev x
                rw [hxv] at hx
                have hlen : 0 + 1 ≤ len.val := ltO_ok (e := .l 0) (n := len) hpp
                obtain ⟨w', h1, h2, h3⟩ := convMark_ok (P := P) hd' hd2 hbk hx hh (by omega)
                have hid : hp.upd i (some (.row bt sz' k f)) = hp := by
                  funext q; unfold HF.upd; split
                  · rename_i e; rw [e, hbk]
                  · rfl
                refine ⟨.value (a.eval x), a.eval x, w', I, β, ?_, .inl rfl, ?_, ?_, fun _ h => h, h3, fun _ _ h => h, fun _ _ => rfl⟩
                · show (do pure (.value (← convert src src (a.eval x))) : Sem Next).run P w = _
                  simp only [Sem.run_bind, h1, Result.andThen_ok, Sem.run_pure]
                · rw [hxv]; exact hx.mono (fun _ h => h) h3 (fun _ _ h => h)
                · show Hp cx I β ((hp.gone []).upd i _) nx w'
                  show Hp cx I β (hp.upd i _) nx w'
                  rw [hid]
                  exact h2
              · cases h
            · cases h
          · cases h
        · cases h
      · cases h
    · cases h
  case makeSlice t l c =>
    split at h
    · rename_i ti hti
      split at h
      · rename_i e he
        split at h
        · rename_i te hte
          split at h
          · rename_i p m hm
            cases h
            obtain ⟨inf, d, z0, hi, hd, hz, hsz, hby, hzero, hsh⟩ := tiOf_spec (hT.get hti)
            rw [hsh] at he
            have hd' := elemOfSh_some he
            subst hd'
            obtain ⟨w', C, h0, h1, h2⟩ := makeSV_ok (P := P) hd (hT.get hte) hm hpp (hev l) (hev c) hh hn hin hnx
            exact Did.made (fz := []) h1 h2 (fun _ h => h) (.sl (b := w.heap.size) (C := C) (c := C) (o := 0) (off := .l 0) (len := m) (by simp only [Vln.put, if_true]) (Nat.zero_add _) h0 (fun _ => (Nat.zero_mul _).symm))
          · cases h
        · cases h
      · cases h
    · cases h
  case slice t x lo hi mx =>
    split at h
    · rename_i ti hti
      split at h
      · rename_i e he
        split at h
        · rename_i te hte
          split at h
          · rename_i hszok
            obtain ⟨p, s, hs, rfl⟩ := out1_some h
            obtain ⟨inf, d, z0, hi', hd, hz, hsz, hby, hzero, hsh⟩ := tiOf_spec (hT.get hti)
            obtain ⟨inf2, d2, z2, hi2, hd2, hz2, hsz2, hby2, hzero2, hsh2⟩ := tiOf_spec (hT.get hte)
            rw [hsh] at he
            have hd' := elemOfSh_some he
            subst hd'
            refine Did.still hh (sliceSV_ok hd hi2 hs hpp (hev x) ?_ ?_ ?_ ?_ ?_ ?_ ?_ ?_)
            · intro y hy
              cases lo with
              | none => cases hy
              | some l => cases hy; exact ⟨_, rfl, hev l⟩
            · intro hy; cases lo with
              | none => rfl
              | some l => cases hy
            · intro y hy
              cases hi with
              | none => cases hy
              | some l => cases hy; exact ⟨_, rfl, hev l⟩
            · intro hy; cases hi with
              | none => rfl
              | some l => cases hy
            · intro y hy
              cases mx with
              | none => cases hy
              | some l => cases hy; exact ⟨_, rfl, hev l⟩
            · intro hy; cases mx with
              | none => rfl
              | some l => cases hy
            · intro sz n f hx
              rw [hx] at hszok
              rw [hsz2]; exact Nat.eq_of_beq_eq_true hszok
            · intro j sz off len hx
              rw [hx] at hszok
              rw [hsz2]; exact Nat.eq_of_beq_eq_true hszok
          · cases h
        · cases h
      · cases h
    · cases h
  case fieldAddr s x f =>
    split at h
    · rename_i ti hti
      split at h
      · rename_i off ty hf
        split at h
        · rename_i tf htf
          split at h
          · rename_i hpos
            obtain ⟨r, hr, rfl⟩ := outS_some h
            obtain ⟨inf, d, z0, hi', hd, hz, hsz, hby, hzero, hsh⟩ := tiOf_spec (hT.get hti)
            obtain ⟨inf2, d2, z2, hi2, hd2, hz2, hsz2, hby2, hzero2, hsh2⟩ := tiOf_spec (hT.get htf)
            rw [hsh] at hf
            obtain ⟨fa, fld, rfl, k1, k2, k3⟩ := fieldOff_some hf
            obtain ⟨b, hb, hrep⟩ := fieldAddrSV_ok hr (hev x)
            refine Did.still hh ⟨_, ?_, hrep⟩
            have hne : ¬ inf2.size = 0 := by
              have : 0 < tf.size := by simpa using hpos
              omega
            simp [Instr.fieldAt, run_underlying hd, k1, hb, Instr.sureAddr, fieldPlace, sizeOf, typeInfo, k3, hi2, hne, k2]
          · cases h
        · cases h
      · cases h
    · cases h
  case field s x f =>
    split at h
    · rename_i ti hti
      split at h
      · rename_i off ty hf
        split at h
        · rename_i tf cs htf hx
          obtain ⟨r, hr, rfl⟩ := outS_some h
          obtain ⟨inf, d, z0, hi', hd, hz, hsz, hby, hzero, hsh⟩ := tiOf_spec (hT.get hti)
          obtain ⟨inf2, d2, z2, hi2, hd2, hz2, hsz2, hby2, hzero2, hsh2⟩ := tiOf_spec (hT.get htf)
          rw [hsh] at hf
          obtain ⟨fa, fld, rfl, k1, k2, k3⟩ := fieldOff_some hf
          have hxr := hev x
          rw [hx] at hxr
          obtain ⟨vs, hxv, hl, hrr⟩ : ∃ vs : Array Value, a.eval x = .agg vs ∧ vs.size = cs.length ∧ ∀ j, j < cs.length → Rep w I β (cs.getD j .any) (vs.getD j undef) := by
            generalize a.eval x = y at hxr
            cases hxr with
            | agg hl hrr => exact ⟨_, rfl, hl, hrr⟩
          rw [hsh2, ← hsz2] at hr
          obtain ⟨z, h1, h2⟩ := run_part_known (P := P) hd2 hi2 hr hl hrr
          refine Did.still hh ⟨z, ?_, h2⟩
          simp only [Instr.field, Sem.run_bind, run_underlying hd, Result.andThen_ok, k1, hxv, asAgg, Sem.run_pure, k2, k3, h1]
        · cases h
      · cases h
    · cases h
  case indexAddr t x i =>
    split at h
    · rename_i ti hti
      obtain ⟨inf, d, z0, hi', hd, hz, hsz, hby, hzero, hsh⟩ := tiOf_spec (hT.get hti)
      split at h
      · rename_i e he
        split at h
        · rename_i te hte
          split at h
          · rename_i hszok
            obtain ⟨p, s, hs, rfl⟩ := out1_some h
            obtain ⟨inf2, d2, z2, hi2, hd2, hz2, hsz2, hby2, hzero2, hsh2⟩ := tiOf_spec (hT.get hte)
            rw [hsh] at he
            have hd' : d = .slice e := by cases d <;> simp [shapeOf] at he; rw [he]
            subst hd'
            refine Did.still hh (indexAddrSV_ok hd hi2 hs hpp (hev x) (hev i) ?_ ?_)
            · intro sz n f hx
              rw [hx] at hszok
              rw [hsz2]; exact Nat.eq_of_beq_eq_true hszok
            · intro j sz off len hx
              rw [hx] at hszok
              rw [hsz2]; exact Nat.eq_of_beq_eq_true hszok
          · cases h
        · cases h
      · rename_i m e he
        split at h
        · rename_i te hte
          obtain ⟨p, s, hs, rfl⟩ := out1_some h
          obtain ⟨inf2, d2, z2, hi2, hd2, hz2, hsz2, hby2, hzero2, hsh2⟩ := tiOf_spec (hT.get hte)
          rw [hsh] at he
          have hd' : d = .array m e := by cases d <;> simp [shapeOf] at he; obtain ⟨rfl, rfl⟩ := he; rfl
          subst hd'
          rw [← hsz2] at hs
          exact Did.still hh (arrayAddrSV_ok hd hi2 hs hpp (hev x) (hev i))
        · cases h
      · cases h
    · cases h
  case index t x i =>
    split at h
    · rename_i ti cs k k' hti hx hi
      split at h
      · rename_i m e he
        split at h
        · rename_i te hte hlt
          obtain ⟨r, hr, rfl⟩ := outS_some h
          obtain ⟨inf, d, z0, hi', hd, hz, hsz, hby, hzero, hsh⟩ := tiOf_spec (hT.get hti)
          obtain ⟨inf2, d2, z2, hi2, hd2, hz2, hsz2, hby2, hzero2, hsh2⟩ := tiOf_spec (hT.get hte)
          rw [hsh] at he
          have hd' : d = .array m e := by cases d <;> simp [shapeOf] at he; obtain ⟨rfl, rfl⟩ := he; rfl
          subst hd'
          have hxr := hev x
          have hir := hev i
          rw [hx] at hxr
          rw [hi] at hir
          obtain ⟨vs, hxv, hl, hrr⟩ : ∃ vs : Array Value, a.eval x = .agg vs ∧ vs.size = cs.length ∧ ∀ j, j < cs.length → Rep w I β (cs.getD j .any) (vs.getD j undef) := by
            generalize a.eval x = y at hxr
            cases hxr with
            | agg hl hrr => exact ⟨_, rfl, hl, hrr⟩
          have hiv : a.eval i = .int k (Int.ofNat k') := by
            generalize a.eval i = y at hir
            cases hir
            rfl
          have hlt : k' < m := by simpa using hlt
          rw [hsh2, ← hsz2] at hr
          obtain ⟨z, h1, h2⟩ := run_part_known (P := P) hd2 hi2 hr hl hrr
          refine Did.still hh ⟨z, ?_, h2⟩
          have hlt' : (k' : Int) < (m : Int) := by omega
          simp [Instr.index, asIntOf, run_underlying hd, hxv, hiv, hlt, sizeOf, typeInfo, hi2, h1]
        · cases h
      · cases h
    · cases h
  case extract x i =>
    obtain ⟨s, hs, rfl⟩ := outS_some h
    exact Did.still hh (extractSV_ok hs (hev x))
  case call c =>
    obtain ⟨callee, args, ats⟩ := c
    simp only at h
    split at h
    · rename_i b
      unfold opCall at h
      split at h
      · -- len
        split at h
        · rename_i t x hat har
          split at h
          · rename_i ti hti
            split at h
            · rename_i e he
              obtain ⟨s, hs, rfl⟩ := outS_some h
              obtain ⟨inf, d, z0, hi', hd, hz, hsz, hby, hzero, hsh⟩ := tiOf_spec (hT.get hti)
              rw [hsh] at he
              have hd' := elemOfSh_some he
              subst hd'
              obtain ⟨X, rfl, rfl⟩ : ∃ X, args = #[X] ∧ x = ev X := by
                obtain ⟨l⟩ := args
                match l, har with
                | [X], har => simp at har; exact ⟨X, rfl, har.symm⟩
              obtain rfl : ats = #[t] := by obtain ⟨l⟩ := ats; simp at hat; rw [hat]
              obtain ⟨z, h1, h2⟩ := lenOfSV_ok (P := P) (ty := type) hd hs (hev X)
              obtain ⟨cs, e⟩ := exec1 a dst .len X #[t] type pos after guard
              rw [e]
              exact Did.still (s := Builtin.len_ #[t] type #[a.eval X]) hh ⟨z, h1, h2⟩
            · cases h
          · cases h
        · cases h
      · -- max
        split at h
        · rename_i x y har
          obtain ⟨s, hs, rfl⟩ := outS_some h
          obtain ⟨X, Y, rfl, rfl, rfl⟩ : ∃ X Y, args = #[X, Y] ∧ x = ev X ∧ y = ev Y := by
            obtain ⟨l⟩ := args
            match l, har with
            | [X, Y], har => simp at har; exact ⟨X, Y, rfl, har.1.symm, har.2.symm⟩
          obtain ⟨z, h1, h2⟩ := maxSV_ok (P := P) hs (hev X) (hev Y) ats type
          obtain ⟨cs, e⟩ := exec2 a dst .max X Y ats type pos after guard
          rw [e]
          exact Did.still (s := Builtin.max_ ats type #[a.eval X, a.eval Y]) hh ⟨z, h1, h2⟩
        · cases h
      · -- min
        split at h
        · rename_i x y har
          obtain ⟨s, hs, rfl⟩ := outS_some h
          obtain ⟨X, Y, rfl, rfl, rfl⟩ : ∃ X Y, args = #[X, Y] ∧ x = ev X ∧ y = ev Y := by
            obtain ⟨l⟩ := args
            match l, har with
            | [X, Y], har => simp at har; exact ⟨X, Y, rfl, har.1.symm, har.2.symm⟩
          obtain ⟨z, h1, h2⟩ := maxSV_ok (P := P) hs (hev X) (hev Y) ats type
          obtain ⟨cs, e⟩ := exec2 a dst .min X Y ats type pos after guard
          rw [e]
          exact Did.still (s := Builtin.min_ ats type #[a.eval X, a.eval Y]) hh ⟨z, h1, h2⟩
        · cases h
      · -- append
        split at h
        · rename_i t t' s x hat har
          split at h
          · rename_i ti htt hti
            have htt : t = t' := Nat.eq_of_beq_eq_true htt
            subst htt
            split at h
            · rename_i e he
              split at h
              · rename_i te hte
                split at h
                · rename_i o ho
                  cases h
                  obtain ⟨inf, d, z0, hi', hd, hz, hsz, hby, hzero, hsh⟩ := tiOf_spec (hT.get hti)
                  rw [hsh] at he
                  have hd' := elemOfSh_some he
                  subst hd'
                  obtain ⟨X, Y, rfl, rfl, rfl⟩ : ∃ X Y, args = #[X, Y] ∧ s = ev X ∧ x = ev Y := by
                    obtain ⟨l⟩ := args
                    match l, har with
                    | [X, Y], har => simp at har; exact ⟨X, Y, rfl, har.1.symm, har.2.symm⟩
                  obtain rfl : ats = #[t, t] := by obtain ⟨l⟩ := ats; simp at hat; rw [hat]
                  obtain ⟨z, w', β', h1, h2, h3, h4, h5, h6⟩ := appendSV_ok (P := P) (ty := type) hd (hT.get hte) ho hpp (hev X) (hev Y) hh hn hin hnx
                  obtain ⟨cs, e⟩ := exec2 a dst .append X Y #[t, t] type pos after guard
                  rw [e]
                  refine ⟨.value z, z, w', I, β', ?_, .inl rfl, h2, h3, fun _ h => h, h5, h4, h6⟩
                  show (do pure (.value (← Builtin.append_ #[t, t] type #[a.eval X, a.eval Y])) : Sem Next).run P w = _
                  simp only [Sem.run_bind, h1, Result.andThen_ok, Sem.run_pure]
                · cases h
              · cases h
            · cases h
          · cases h
        · cases h
      · cases h
    · cases h
  all_goals cases h
end
end Go.Eng
/-
  The symbolic executor: code.
-/
namespace Go.Eng
abbrev Hl := List (Nat × Blk)
def look : Hl → Nat → Option Blk
  | [], _ => none
  | (j, x) :: r, i => match Nat.beq j i with
    | true => some x
    | false => look r i
def hdel : Hl → Nat → Hl
  | [], _ => []
  | (j, x) :: r, i => match Nat.beq j i with
    | true => hdel r i
    | false => (j, x) :: hdel r i
def hput (H : Hl) (i : Nat) (x : Blk) : Hl := (i, x) :: hdel H i
def hgone : Hl → List Nat → Hl
  | H, [] => H
  | H, i :: r => hgone (hdel H i) r
def hafter (H : Hl) (n : Nat) : Eff → Hl
  | .none => H
  | .new x fz => hput (hgone H fz) n x
  | .turn i y fz => hput (hgone H fz) i y
  | .app id x => match id with
    | some i => hput (hdel H i) n x
    | none => hput H n x
theorem look_hdel (H : Hl) (i : Nat) : look (hdel H i) = HF.upd (look H) i none := by
  funext j
  induction H with
  | nil => simp [hdel, look, HF.upd]
  | cons p r ih =>
    obtain ⟨k, x⟩ := p
    unfold hdel
    split
    · rename_i hk
      have hk : k = i := Nat.eq_of_beq_eq_true hk
      subst hk
      rw [ih]
      unfold HF.upd
      split
      · rfl
      · rename_i e
        simp only [look]
        rw [show Nat.beq k j = false from by cases h : Nat.beq k j with | false => rfl | true => exact absurd (Nat.eq_of_beq_eq_true h).symm e]
    · rename_i hk
      simp only [look]
      by_cases hj : k = j
      · subst hj
        rw [show Nat.beq k k = true from by simp]
        unfold HF.upd
        rw [if_neg (fun e => by subst e; simp at hk)]
        simp
      · rw [show Nat.beq k j = false from by cases h : Nat.beq k j with | false => rfl | true => exact absurd (Nat.eq_of_beq_eq_true h) hj]
        simp only [ih]
        unfold HF.upd
        split
        · rfl
        · simp only
          rw [show Nat.beq k j = false from by cases h : Nat.beq k j with | false => rfl | true => exact absurd (Nat.eq_of_beq_eq_true h) hj]
theorem look_hput (H : Hl) (i : Nat) (x : Blk) : look (hput H i x) = HF.upd (look H) i (some x) := by
  funext j
  simp only [hput, look]
  split
  · rename_i h
    have h : i = j := Nat.eq_of_beq_eq_true h
    subst h
    simp [HF.upd]
  · rename_i h
    have hne : j ≠ i := fun e => by subst e; simp at h
    rw [look_hdel]
    simp [HF.upd, hne]
theorem look_hgone (fz : List Nat) : ∀ H : Hl, look (hgone H fz) = HF.gone (look H) fz := by
  induction fz with
  | nil => intro H; rfl
  | cons i r ih => intro H; simp only [hgone, HF.gone]; rw [ih, look_hdel]
theorem look_hafter (H : Hl) (n : Nat) (e : Eff) : look (hafter H n e) = HF.after (look H) n e := by
  cases e with
  | none => rfl
  | new x fz => simp only [hafter, HF.after, look_hput, look_hgone]
  | turn i y fz => simp only [hafter, HF.after, look_hput, look_hgone]
  | app id x =>
    cases id with
    | none => simp only [hafter, HF.after, look_hput]
    | some i => simp only [hafter, HF.after, look_hput, look_hdel]
structure St where
  tmps : List SV
  heap : Hl
  nx : Nat
  lo : Nat
abbrev Gl := List (Nat × SV)
def gget : Gl → Nat → SV
  | [], _ => .any
  | (j, x) :: r, i => match Nat.beq j i with
    | true => x
    | false => gget r i
def evSV (G : Gl) (tm : List SV) (x : Operand) : SV :=
  match x with
  | .tmp t => tm.getD t .any
  | .const v => svOfV v
  | .global g => gget G g
  | .func f => .con (.func (.func f) #[] #[])
def setTmp (tm : List SV) (d : Option Nat) (s : SV) : List SV :=
  match d with
  | some d => tm.set d s
  | none => tm
structure Sat (cx : Cx) (G : Gl) (I : Nat → Prop) (β : Vln) (st : St) (a : Act) (w : World) : Prop where
  hp : Hp cx I β (look st.heap) st.nx w
  tl : a.tmps.size = st.tmps.length
  tm : ∀ t, Rep w I β (st.tmps.getD t .any) (a.tmps.getD t undef)
  df : DfOk cx I w a.defers
  gl : ∀ p ∈ G, Rep w I Vln.no p.2 (.pointer (some ⟨p.1, 0, none⟩))
  lo : ∀ i, st.lo ≤ i → cx.β0 i = none
  lon : st.lo ≤ st.nx
section
variable {P : Program} {G : Gl} {cx : Cx} {w : World} {I : Nat → Prop} {β : Vln} {st : St} {a : Act}
theorem gget_rep (h : ∀ p ∈ G, Rep w I Vln.no p.2 (.pointer (some ⟨p.1, 0, none⟩))) (g : Nat) : Rep w I β (gget G g) (.pointer (some ⟨g, 0, none⟩)) := by
  induction G with
  | nil => exact .any _
  | cons p r ih =>
    obtain ⟨j, x⟩ := p
    unfold gget
    split
    · rename_i hj
      have hj : j = g := Nat.eq_of_beq_eq_true hj
      subst hj
      exact (h _ (List.mem_cons_self)).up
    · exact ih (fun q hq => h q (List.mem_cons_of_mem _ hq))
theorem Sat.ev (h : Sat cx G I β st a w) (x : Operand) : Rep w I β (evSV G st.tmps x) (a.eval x) := by
  cases x with
  | tmp t => exact h.tm t
  | const v => exact svOfV_rep _ _ _ _
  | global g => exact gget_rep h.gl g
  | func f => exact .con _
theorem put_tmps (a : Act) (d : Option Tmp) (v : Value) : (a.put d v).tmps = match d with | some d => a.tmps.setIfInBounds d v | none => a.tmps := by
  cases d <;> rfl
theorem put_defers (a : Act) (d : Option Tmp) (v : Value) : (a.put d v).defers = a.defers := by
  cases d <;> rfl
theorem Sat.put (h : Sat cx G I β st a w) {I' : Nat → Prop} {β' : Vln} {w' : World} {H' : Hl} {n' : Nat} {s : SV} {v : Value} (d : Option Tmp) (hh : Hp cx I' β' (look H') n' w') (hn : st.nx ≤ n') (hI : ∀ b, I b → I' b)
    (hw : ∀ b, I b → w'.heap[b]? = w.heap[b]?) (hβ : ∀ i y, β i = some y → β' i = some y) (hr : Rep w' I' β' s v) : Sat cx G I' β' ⟨setTmp st.tmps d s, H', n', st.lo⟩ (a.put d v) w' where
  hp := hh
  tl := by
    rw [put_tmps]
    cases d with
    | none => exact h.tl
    | some d => simp [setTmp, h.tl]
  tm := fun t => by
    rw [put_tmps]
    cases d with
    | none => exact (h.tm t).mono hI hw hβ
    | some d =>
      simp only [setTmp]
      by_cases e : t = d
      · subst e
        by_cases hlt : t < st.tmps.length
        · have h1 : (st.tmps.set t s).getD t .any = s := by simp [List.getD_eq_getElem?_getD, hlt]
          have h2 : (a.tmps.setIfInBounds t v).getD t undef = v := by
            have : t < a.tmps.size := by rw [h.tl]; exact hlt
            simp [Array.getD_eq_getD_getElem?, this]
          rw [h1, h2]
          exact hr
        · have h1 : (st.tmps.set t s).getD t .any = .any := by simp [List.getD_eq_getElem?_getD, hlt]
          rw [h1]
          exact .any _
      · have h1 : (st.tmps.set d s).getD t .any = st.tmps.getD t .any := by simp [List.getD_eq_getElem?_getD, List.getElem?_set_ne (Ne.symm e)]
        have h2 : (a.tmps.setIfInBounds d v).getD t undef = a.tmps.getD t undef := by simp only [Array.getD_eq_getD_getElem?, Array.getElem?_setIfInBounds_ne (Ne.symm e)]
        rw [h1, h2]
        exact (h.tm t).mono hI hw hβ
  df := by rw [put_defers]; exact h.df.mono hI hw
  gl := fun p hp => (h.gl p hp).mono hI hw (fun _ _ h => h)
  lo := h.lo
  lon := Nat.le_trans h.lon hn
theorem Sat.drew (h : Sat cx G I β st a w) : Sat cx G I β st a { w with drawn := w.drawn + 1 } where
  hp := h.hp.drawn _
  tl := h.tl
  tm := fun t => (h.tm t).mono (fun _ h => h) (fun _ _ => rfl) (fun _ _ h => h)
  df := h.df
  gl := fun p hp => (h.gl p hp).mono (fun _ h => h) (fun _ _ => rfl) (fun _ _ h => h)
  lo := h.lo
  lon := h.lon
end
structure CS (P : Program) (G : Gl) (f : Nat) (args : List SV) (st : St) (K : SV → St → Prop) : Prop where
  ent : Go.Proofs.Enters P f
  out : ∀ (cx : Cx) (I : Nat → Prop) (β : Vln) (a : Act) (w : World) (cargs : Array Value), Sat cx G I β st a w → cargs.size = args.length → (∀ j, Rep w I β (args.getD j .any) (cargs.getD j undef)) →
    Calls P f cargs w fun e w' => ∃ v r st' I' β', e = .returned v ∧ K r st' ∧ Sat cx G I' β' st' a w' ∧ Rep w' I' β' r v
def Tr (P : Program) (G : Gl) (c : Code) (st : St) (K : Exit → St → Prop) : Prop :=
  ∀ (cx : Cx) (I : Nat → Prop) (β : Vln) (a : Act) (w : World), Sat cx G I β st a w → c.wp P (fun e a' w' => ∃ st' I' β', K e st' ∧ Sat cx G I' β' st' a' w') a w
structure LS (P : Program) (G : Gl) (c : Code) (st : St) (K : Exit → St → Prop) : Prop where
  out : Tr P G (.loop c) st K
structure DS (P : Program) (G : Gl) (T : Tab) (ops : List Oper) (st : St) (K : St → Prop) : Prop where
  out : ∀ id, Tr P G (.region id ops.toArray true) st fun e st' => e = .normal ∧ K st'
def Fr (r : Option Nat) : Fence := { fn := fun _ => True, depth := none, alive := false, round := r }
structure OS (P : Program) (G : Gl) (o : Oper) (st : St) (K : St → Prop) : Prop where
  out : ∀ (r : Option Nat) (cx : Cx) (I : Nat → Prop) (β : Vln) (a : Act) (w : World) (next : Act → World → Prop) (Q : Exit → Act → World → Prop), Sat cx G I β st a w →
    (∀ st' I' β' a' w', K st' → Sat cx G I' β' st' a' w' → next a' w') → o.wpIn (Fr r) 0 P a w next Q
structure FS (P : Program) (G : Gl) (f : Operand) (ps : Array Tmp) (x c : Code) (st : St) (K : Exit → St → Prop) : Prop where
  out : Tr P G (.rangeFunc f ps x c) st K
def guardTmp (all : List Oper) (j : Nat) : Option Nat :=
  match all[j]? with
  | some o => o.dst
  | none => none
def eqb (a b : Bool) : Bool :=
  match a with
  | true => b
  | false => !b
def outSt (st : St) (d : Option Nat) (out : OpOut) : St :=
  ⟨setTmp st.tmps d out.val, hafter st.heap st.nx out.eff, st.nx + 1, st.lo⟩
def calleeOf (op : Op) : Option (Nat × List Operand) :=
  match op with
  | .call c => match c.callee with
    | .value f => match f with
      | .func k => some (k, c.args.toList)
      | _ => none
    | _ => none
  | _ => none
def nilTest (T : Tab) (ev : Operand → SV) (op : Op) : Option NV :=
  match op with
  | .binOp b t x y _ => match b with
    | .eql => match T.get t with
      | some ti => match elemOfSh ti.shape with
        | some _ => match y with
          | .const v => match v with
            | .slice none 0 0 => match ev x with
              | .ro _ n _ => some n
              | .sl _ _ _ n => some n
              | _ => none
            | _ => none
          | _ => none
        | none => none
      | none => none
    | _ => none
  | _ => none
def vcOp (P : Program) (G : Gl) (T : Tab) (A : Ar) (o : Oper) (st : St) (K : St → Prop) : Prop :=
  match calleeOf o.op with
  | some (f, args) => CS P G f (args.map (evSV G st.tmps)) st fun r st' => K ⟨setTmp st'.tmps o.dst r, st'.heap, st'.nx, st'.lo⟩
  | none => match nilTest T (evSV G st.tmps) o.op with
    | some n => (n.val = 0 → K ⟨setTmp st.tmps o.dst (.bl true), st.heap, st.nx, st.lo⟩) ∧ K ⟨setTmp st.tmps o.dst (.bl false), st.heap, st.nx, st.lo⟩
    | none => match opFun T A (look st.heap) st.nx (evSV G st.tmps) o.op with
      | some out => out.obl ∧ K (outSt st o.dst out)
      | none => OS P G o st K
def vcOps (P : Program) (G : Gl) (T : Tab) (A : Ar) (all : List Oper) : List Oper → St → (St → Prop) → Prop
  | [], st, K => K st
  | o :: r, st, K => match o.guard with
    | none => vcOp P G T A o st fun st' => vcOps P G T A all r st' K
    | some (j, want) => match guardTmp all j with
      | some d => match st.tmps.getD d .any with
        | .bl b => match eqb b want with
          | true => vcOp P G T A o st fun st' => vcOps P G T A all r st' K
          | false => vcOps P G T A all r ⟨setTmp st.tmps o.dst (.tup []), st.heap, st.nx, st.lo⟩ K
        | .bs b => (b = want → vcOp P G T A o ⟨st.tmps.set d (.bl want), st.heap, st.nx, st.lo⟩ fun st' => vcOps P G T A all r st' K) ∧
            (b = !want → vcOps P G T A all r ⟨setTmp (st.tmps.set d (.bl (!want))) o.dst (.tup []), st.heap, st.nx, st.lo⟩ K)
        | .tup cs => match cs with
          | [] => vcOps P G T A all r ⟨setTmp st.tmps o.dst (.tup []), st.heap, st.nx, st.lo⟩ K
          | _ :: _ => False
        | _ => False
      | none => False
def seqK (K1 : St → Prop) (K : Exit → St → Prop) (e : Exit) (st : St) : Prop :=
  match e with
  | .normal => K1 st
  | e => K e st
def blockK (id : Nat) (K : Exit → St → Prop) (e : Exit) (st : St) : Prop :=
  match e with
  | .exit j => match Nat.beq j id with
    | true => K .normal st
    | false => K (.exit j) st
  | e => K e st
def noGoto (K : Exit → St → Prop) (e : Exit) (st : St) : Prop :=
  match e with
  | .goto _ => False
  | e => K e st
def vc (P : Program) (G : Gl) (T : Tab) (A : Ar) : Code → St → (Exit → St → Prop) → Prop
  | .skip, st, K => K .normal st
  | .seq a b, st, K => vc P G T A a st (seqK (fun st' => vc P G T A b st' K) K)
  | .region _ ops draw, st, K => match draw with
    | false => vcOps P G T A ops.toList ops.toList st (K .normal)
    | true => DS P G T ops.toList st (K .normal)
  | .cond c x y, st, K => match evSV G st.tmps c with
    | .bl b => match b with
      | true => vc P G T A x st K
      | false => vc P G T A y st K
    | .bs b => (b = true → vc P G T A x st K) ∧ (b = false → vc P G T A y st K)
    | _ => False
  | .block id c, st, K => vc P G T A c st (blockK id K)
  | .loop c, st, K => LS P G c st K
  | .exit id, st, K => K (.exit id) st
  | .ret, st, K => K .ret st
  | .scope c, st, K => vc P G T A c st (noGoto K)
  | .label _, st, K => K .normal st
  | .rangeFunc f ps x c, st, K => FS P G f ps x c st K
  | _, _, _ => False
end Go.Eng
/-
  The symbolic executor: code: what 'vc' says is so.
-/
namespace Go.Eng
section
variable {P : Program} {G : Gl} {T : Tab} {cx : Cx} {w : World} {I : Nat → Prop} {β : Vln} {st : St} {a : Act}
theorem wpIn_of_wp {r : Option Nat} {o : Oper} {next : Act → World → Prop} {Q : Exit → Act → World → Prop} (hd : ∀ c, o.op ≠ .defer c) (h : o.wp P a w next Q) : o.wpIn (Fr r) 0 P a w next Q := by
  refine ⟨fun _ _ => trivial, ?_⟩
  rw [Oper.semAt_eq _ _ _ hd]
  unfold Oper.wp at h
  generalize (execOp a.eval o).run P w = res at h ⊢
  cases res with
  | halt x w' =>
    cases x with
    | panic v => exact h
    | _ => exact h.elim
  | ok x w' =>
    cases x with
    | value v => exact h
    | skip => exact h
    | enter f args =>
      refine ⟨fun h => (by cases h), ?_⟩
      have h1 : CallsIn (Fr r) (0 - 1) P f args w' _ := (callsIn_wide (n := 0 - 1)).2 h
      exact h1.mono fun e w'' hh => by cases e <;> exact hh
    | row row args =>
      refine ⟨fun h => (by cases h), fun c cs _ => ?_⟩
      obtain ⟨v, w'', h1, h2⟩ := h c cs
      exact ⟨v, w'', h1, stepsIn_wide.2 h2⟩
    | defer d => exact h
    | _ => exact h.elim
def wpRest (P : Program) (r : Option Nat) (ops : Array Oper) (Q : Exit → Act → World → Prop) : Nat → List Oper → Act → World → Prop
  | _, [], a, w => Q .normal a w
  | i, o :: l, a, w => if Region.wanted o (yielded ops a.tmps) then o.wpIn (Fr r) 0 P a w (wpRest P r ops Q (i + 1) l) Q else wpRest P r ops Q (i + 1) l (a.put o.dst undef) w
theorem uponIn_mono {F : Fence} {n : Nat} {o : Oper} {next next' : Act → World → Prop} {Q : Exit → Act → World → Prop} (hn : ∀ a w, next a w → next' a w) {res : Result Next} (h : o.uponIn F n P a next Q res) : o.uponIn F n P a next' Q res := by
  cases res with
  | halt x w' => cases x <;> exact h
  | ok x w' =>
    cases x with
    | value v => exact hn _ _ h
    | skip => exact hn _ _ h
    | enter f args => exact ⟨h.1, h.2.mono fun e w'' hh => by cases e <;> first | exact hn _ _ hh | exact hh⟩
    | row row args => exact ⟨h.1, h.2.mono fun v w'' hh => hn _ _ hh⟩
    | round l f tmps x c => exact ⟨h.1, h.2.mono fun e w'' hh => by cases e <;> first | exact hn _ _ hh | exact hh⟩
    | defer d => exact hn _ _ h
    | _ => exact h.elim
theorem wpOps_of_rest {r : Option Nat} {ops : Array Oper} {Q : Exit → Act → World → Prop} (l : List Oper) : ∀ (i : Nat) (a : Act) (w : World), ops.toList.drop i = l → wpRest P r ops Q i l a w → wpOpsIn (Fr r) 0 P ops Q (List.range' i l.length) a w := by
  induction l with
  | nil => intro i a w _ h; simpa [wpOpsIn, wpRest] using h
  | cons o l ih =>
    intro i a w hd h
    have ho : ops[i]? = some o := by
      rw [← Array.getElem?_toList]
      have : (ops.toList.drop i)[0]? = some o := by rw [hd]; rfl
      rw [List.getElem?_drop] at this
      simpa using this
    have hd' : ops.toList.drop (i + 1) = l := by
      rw [← List.drop_drop, hd]; rfl
    simp only [List.length_cons, List.range'_succ, wpOpsIn, ho]
    simp only [wpRest] at h
    split
    · rename_i hw
      rw [if_pos hw] at h
      exact ⟨h.1, uponIn_mono (fun a w hk => ih (i + 1) a w hd' hk) h.2⟩
    · rename_i hw
      rw [if_neg hw] at h
      exact ⟨fun _ _ => trivial, ih _ _ _ hd' h⟩
theorem wpOps_text {r : Option Nat} {ops : Array Oper} {Q : Exit → Act → World → Prop} {a : Act} {w : World} (h : wpRest P r ops Q 0 ops.toList a w) : wpOpsIn (Fr r) 0 P ops Q (List.range ops.size) a w := by
  have := wpOps_of_rest (P := P) (r := r) (ops := ops) (Q := Q) ops.toList 0 a w rfl h
  rw [List.range_eq_range']
  simpa using this
theorem calleeOf_some {op : Op} {f : Nat} {args : List Operand} (h : calleeOf op = some (f, args)) : ∃ xs ats, op = .call { callee := .value (.func f), args := xs, argTypes := ats } ∧ args = xs.toList := by
  unfold calleeOf at h
  split at h
  · rename_i c
    obtain ⟨cal, xs, ats⟩ := c
    split at h
    · rename_i f' hc
      split at h
      · cases h
        exact ⟨xs, ats, by rw [show cal = _ from hc], rfl⟩
      · cases h
    · cases h
  · cases h
theorem map_getD_ev {a : Act} (xs : List Operand) (hev : ∀ x, Rep w I β (evSV G st.tmps x) (a.eval x)) (j : Nat) : Rep w I β ((xs.map (evSV G st.tmps)).getD j .any) ((#[] ++ (xs.toArray).map a.eval ++ #[] : Array Value).getD j undef) := by
  by_cases hj : j < xs.length
  · have h1 : (xs.map (evSV G st.tmps)).getD j .any = evSV G st.tmps xs[j] := by simp [List.getD_eq_getElem?_getD, hj]
    have h2 : (#[] ++ (xs.toArray).map a.eval ++ #[] : Array Value).getD j undef = a.eval xs[j] := by
      simp [Array.getD_eq_getD_getElem?, hj]
    rw [h1, h2]
    exact hev _
  · have h1 : (xs.map (evSV G st.tmps)).getD j .any = .any := by simp [List.getD_eq_getElem?_getD, hj]
    rw [h1]
    exact .any _
theorem equalIn_slice_nil {t e : TypeId} (hd : P.underlying t = some (.slice e)) (d : Nat) (A : Option Addr) (l c : Nat) : (Op.equalIn (d + 1) t (.slice A l c) (.slice none 0 0)).run P w = .ok A.isNone w := by
  cases A <;> simp [Op.equalIn, run_underlying hd]
theorem run_slice_nil {t e : TypeId} (hd : P.underlying t = some (.slice e)) (A : Option Addr) (l c : Nat) : (Go.binOp .eql t (.slice A l c) (.slice none 0 0)).run P w = .ok (.bool A.isNone) w :=
  (eq_of_equal (fun d => equalIn_slice_nil hd d A l c) rfl rfl).1
theorem nilTest_ok (hT : T.Ok P) {ev : Operand → SV} {o : Oper} {n : NV} (h : nilTest T ev o.op = some n) (hev : ∀ x, Rep w I β (ev x) (a.eval x)) :
    ∃ b : Bool, (execOp a.eval o).run P w = .ok (.value (.bool b)) w ∧ (b = true → n.val = 0) := by
  unfold nilTest at h
  split at h
  · rename_i b t x y yt hop
    split at h
    · split at h
      · rename_i ti hti
        split at h
        · rename_i e he
          split at h
          · rename_i v
            split at h
            · obtain ⟨inf, d, z0, hi, hd, hz, hsz, hby, hzero, hsh⟩ := tiOf_spec (hT.get hti)
              rw [hsh] at he
              have hde := elemOfSh_some he
              rw [hde] at hd
              have hrun : ∀ (A : Option Addr) (l c : Nat), a.eval x = .slice A l c → (execOp a.eval o).run P w = .ok (.value (.bool A.isNone)) w := by
                intro A l c hx
                obtain ⟨dst, op, type, pos, after, guard⟩ := o
                simp only at hop
                subst hop
                have e1 : execOp a.eval { dst := dst, op := .binOp .eql t x (.const (.slice none 0 0)) yt, type := type, pos := pos, after := after, guard := guard } = (do let z ← (do eqGuard .eql t x (.const (.slice none 0 0)) (a.eval x) (.slice none 0 0); Go.binOp .eql t (a.eval x) (.slice none 0 0)); pure (.value z)) := rfl
                rw [e1, hx]
                have hg : (eqGuard .eql t x (.const (.slice none 0 0)) (.slice A l c) (.slice none 0 0)).run P w = .ok () w := rfl
                simp only [Sem.run_bind, hg, Result.andThen_ok, run_slice_nil hd, Sem.run_pure]
              have hx := hev x
              split at h
              · rename_i sz m f hx'
                cases h
                rw [hx'] at hx
                generalize hv : a.eval x = v at hx
                cases hx with
                | ro0 _ _ hn _ A c => exact ⟨_, hrun A 0 c hv, fun _ => hn⟩
                | ro hI hc hlen u h1 hcell hrep => exact ⟨_, hrun _ _ _ hv, fun h => by cases h⟩
              · rename_i i sz off m hx'
                cases h
                rw [hx'] at hx
                generalize hv : a.eval x = v at hx
                cases hx with
                | sl hb hc hl ho => exact ⟨_, hrun _ _ _ hv, fun h => by cases h⟩
                | sl0 hl A => exact ⟨_, hrun A 0 0 hv, fun _ => hl⟩
              · cases h
            · cases h
          · cases h
        · cases h
      · cases h
    · cases h
  · cases h
theorem vcOp_ok (hT : T.Ok P) {o : Oper} {K : St → Prop} {next : Act → World → Prop} {Q : Exit → Act → World → Prop} (h : vcOp P G T Ar.real o st K) (hs : Sat cx G I β st a w)
    (hk : ∀ st' I' β' a' w', K st' → Sat cx G I' β' st' a' w' → next a' w') (r : Option Nat) : o.wpIn (Fr r) 0 P a w next Q := by
  unfold vcOp at h
  split at h
  · rename_i f args hc
    refine wpIn_of_wp (fun c e => by rw [e] at hc; cases hc) ?_
    obtain ⟨xs, ats, hop, rfl⟩ := calleeOf_some hc
    obtain ⟨dst, op, type, pos, after, guard⟩ := o
    simp only at hop
    subst hop
    have hx := h.out cx I β a w (#[] ++ xs.map a.eval ++ #[]) hs (by simp) (fun j => by
      have := map_getD_ev (a := a) xs.toList hs.ev j
      simpa using this)
    unfold Oper.wp
    rw [execOp_call_go, h.ent]
    simp only [Oper.upon]
    refine hx.mono fun e w' he => ?_
    obtain ⟨v, r, st', I', β', rfl, hK, hs', hr⟩ := he
    exact hk _ _ _ _ _ hK (hs'.put dst hs'.hp (Nat.le_refl _) (fun _ h => h) (fun _ _ => rfl) (fun _ _ h => h) hr)
  · split at h
    · rename_i n hnt
      refine wpIn_of_wp (fun c e => by rw [e] at hnt; cases hnt) ?_
      obtain ⟨b, hrun, hb⟩ := nilTest_ok hT hnt hs.ev
      unfold Oper.wp
      rw [hrun]
      have hput : ∀ c, b = c → K ⟨setTmp st.tmps o.dst (.bl c), st.heap, st.nx, st.lo⟩ → next (a.put o.dst (.bool b)) w :=
        fun c hc hK => hk _ _ _ _ _ hK (hs.put o.dst hs.hp (Nat.le_refl _) (fun _ h => h) (fun _ _ => rfl) (fun _ _ h => h) (hc ▸ .bl b))
      cases b with
      | true => exact hput true rfl (h.1 (hb rfl))
      | false => exact hput false rfl h.2
    split at h
    · rename_i out ho
      refine wpIn_of_wp (fun c e => by rw [e] at ho; cases ho) ?_
      obtain ⟨hobl, hK⟩ := h
      have hn : β st.nx = none := hs.hp.fresh _ (Nat.le_refl _)
      have hin : look st.heap st.nx = none := by
        cases hl : look st.heap st.nx with
        | none => rfl
        | some x =>
          rcases hs.hp.blk _ _ hl with ⟨b, C, h1, _⟩ | ⟨_, h2, _⟩
          · rw [hn] at h1; cases h1
          · exact absurd h2 (Nat.lt_irrefl _)
      obtain ⟨nxt, v, w', I', β', hrun, hnxt, hr, hh, hI, hw, hβ, hβn⟩ := opFun_ok (cx := cx) hT ho hobl hs.ev (hs.hp.nx_le (Nat.le_succ st.nx)) hn hin (Nat.lt_succ_self _)
      have hput : ∀ v, Rep w' I' β' out.val v → next (a.put o.dst v) w' := by
        intro v hr
        refine hk (outSt st o.dst out) I' β' _ _ hK ?_
        have hh2 : Hp cx I' β' (look (hafter st.heap st.nx out.eff)) (st.nx + 1) w' := by rw [look_hafter]; exact hh
        exact hs.put (n' := st.nx + 1) o.dst hh2 (Nat.le_succ _) hI hw hβ hr
      unfold Oper.wp
      rw [hrun]
      rcases hnxt with rfl | ⟨rfl, rfl⟩
      · exact hput v hr
      · exact hput _ hr
    · exact h.out r cx I β a w next Q hs hk
theorem yielded_of {all : List Oper} {ops : Array Oper} (hall : ops.toList = all) {j d : Nat} (hd : guardTmp all j = some d) {b : Bool} (hlt : d < a.tmps.size) (hv : a.tmps.getD d undef = .bool b) : yielded ops a.tmps j = some b := by
  unfold guardTmp at hd
  split at hd
  · rename_i o ho
    have ho' : ops[j]? = some o := by rw [← Array.getElem?_toList, hall]; exact ho
    unfold yielded
    simp only [ho', Option.bind_some, hd]
    rw [Array.getD_eq_getD_getElem?, Array.getElem?_eq_getElem hlt] at hv
    rw [Array.getElem?_eq_getElem hlt]
    simp only [Option.getD_some] at hv
    rw [hv]
  · cases hd
theorem Sat.lit (h : Sat cx G I β st a w) {d : Nat} {b c : Bool} (hd : st.tmps.getD d .any = .bs b) (hb : b = c) : Sat cx G I β ⟨st.tmps.set d (.bl c), st.heap, st.nx, st.lo⟩ a w where
  hp := h.hp
  tl := by rw [h.tl]; simp
  tm := fun t => by
    by_cases e : t = d
    · subst e
      by_cases hlt : t < st.tmps.length
      · have h1 : (st.tmps.set t (.bl c)).getD t .any = .bl c := by simp [List.getD_eq_getElem?_getD, hlt]
        rw [h1]
        have := h.tm t
        rw [hd] at this
        generalize a.tmps.getD t undef = v at this
        cases this
        rw [← hb]
        exact .bl _
      · have h1 : (st.tmps.set t (.bl c)).getD t .any = .any := by simp [List.getD_eq_getElem?_getD, hlt]
        rw [h1]
        exact .any _
    · have h1 : (st.tmps.set d (.bl c)).getD t .any = st.tmps.getD t .any := by simp [List.getD_eq_getElem?_getD, List.getElem?_set_ne (Ne.symm e)]
      rw [h1]
      exact h.tm t
  df := h.df
  gl := h.gl
  lo := h.lo
  lon := h.lon
theorem Sat.skip (h : Sat cx G I β st a w) (d : Option Tmp) : Sat cx G I β ⟨setTmp st.tmps d (.tup []), st.heap, st.nx, st.lo⟩ (a.put d undef) w :=
  h.put d h.hp (Nat.le_refl _) (fun _ h => h) (fun _ _ => rfl) (fun _ _ h => h) (.tup rfl (fun j hj => absurd hj (Nat.not_lt_zero _)))
theorem yielded_none {all : List Oper} {ops : Array Oper} (hall : ops.toList = all) {j d : Nat} (hd : guardTmp all j = some d) (hlt : d < a.tmps.size) (hv : a.tmps.getD d undef = undef) : yielded ops a.tmps j = none := by
  unfold guardTmp at hd
  split at hd
  · rename_i o ho
    have ho' : ops[j]? = some o := by rw [← Array.getElem?_toList, hall]; exact ho
    unfold yielded
    simp only [ho', Option.bind_some, hd]
    rw [Array.getD_eq_getD_getElem?, Array.getElem?_eq_getElem hlt] at hv
    rw [Array.getElem?_eq_getElem hlt]
    simp only [Option.getD_some] at hv
    rw [hv]
    rfl
  · cases hd
theorem wanted_none {o : Oper} {j : Nat} {want : Bool} {y : Nat → Option Bool} (hg : o.guard = some (j, want)) (hy : y j = none) : Region.wanted o y = false := by
  unfold Region.wanted
  rw [hg]
  simp only [hy]
  rfl
theorem getD_undef {d : Nat} (h : Sat cx G I β st a w) (hd : st.tmps.getD d .any = .tup []) : d < a.tmps.size ∧ a.tmps.getD d undef = undef := by
  have h1 := h.tm d
  rw [hd] at h1
  have h2 : d < a.tmps.size := by
    rw [h.tl]
    rcases Nat.lt_or_ge d st.tmps.length with hlt | hge
    · exact hlt
    · rw [List.getD_eq_getElem?_getD, List.getElem?_eq_none hge] at hd
      cases hd
  refine ⟨h2, ?_⟩
  generalize a.tmps.getD d undef = v at h1
  cases h1 with
  | @tup _ _ vs hl _ =>
    have hv : vs = #[] := Array.eq_empty_of_size_eq_zero hl
    rw [hv]; rfl
theorem wanted_some {o : Oper} {j : Nat} {want b : Bool} {y : Nat → Option Bool} (hg : o.guard = some (j, want)) (hy : y j = some b) : Region.wanted o y = eqb b want := by
  unfold Region.wanted
  rw [hg]
  simp only [hy]
  cases b <;> cases want <;> rfl
theorem getD_bool {d : Nat} {b : Bool} (h : Sat cx G I β st a w) (hd : st.tmps.getD d .any = .bl b) : d < a.tmps.size ∧ a.tmps.getD d undef = .bool b := by
  have h1 := h.tm d
  rw [hd] at h1
  have h2 : d < a.tmps.size := by
    rw [h.tl]
    rcases Nat.lt_or_ge d st.tmps.length with hlt | hge
    · exact hlt
    · rw [List.getD_eq_getElem?_getD, List.getElem?_eq_none hge] at hd
      cases hd
  refine ⟨h2, ?_⟩
  generalize a.tmps.getD d undef = v at h1
  cases h1
  rfl
theorem vcOps_ok (hT : T.Ok P) (ro : Option Nat) (ops : Array Oper) {Q : Exit → Act → World → Prop} (r : List Oper) : ∀ (i : Nat) {K : St → Prop} {cx : Cx} {w : World} {I : Nat → Prop} {β : Vln} {st : St} {a : Act}, vcOps P G T Ar.real ops.toList r st K → Sat cx G I β st a w →
    (∀ st' I' β' a' w', K st' → Sat cx G I' β' st' a' w' → Q .normal a' w') → wpRest P ro ops Q i r a w := by
  induction r with
  | nil =>
    intro i K cx w I β st a h hs hk
    exact hk _ _ _ _ _ h hs
  | cons o r ih =>
    intro i K cx w I β st a h hs hk
    have run : ∀ {st : St}, Sat cx G I β st a w → (vcOp P G T Ar.real o st fun st' => vcOps P G T Ar.real ops.toList r st' K) → o.wpIn (Fr ro) 0 P a w (wpRest P ro ops Q (i + 1) r) Q :=
      fun hs h => vcOp_ok hT h hs (fun st' I' β' a' w' hK hs' => ih (i + 1) hK hs' hk) ro
    simp only [wpRest]
    unfold vcOps at h
    split at h
    · rename_i hg
      rw [if_pos (by unfold Region.wanted; rw [hg])]
      exact run hs h
    · rename_i j want hg
      split at h
      · rename_i d hd
        split at h
        · rename_i b hb
          obtain ⟨h1, h2⟩ := getD_bool hs hb
          have hy := yielded_of (ops := ops) rfl hd h1 h2
          have hw := wanted_some (y := yielded ops a.tmps) hg hy
          split at h
          · rename_i he
            rw [if_pos (by rw [hw]; exact he)]
            exact run hs h
          · rename_i he
            rw [if_neg (by rw [hw, he]; decide)]
            exact ih (i + 1) h (hs.skip _) hk
        · rename_i b hb
          by_cases hbw : b = want
          · have hs' := hs.lit hb hbw
            have hb' : (st.tmps.set d (.bl want)).getD d .any = .bl want := by
              have : d < st.tmps.length := by
                rcases Nat.lt_or_ge d st.tmps.length with hlt | hge
                · exact hlt
                · rw [List.getD_eq_getElem?_getD, List.getElem?_eq_none hge] at hb; cases hb
              simp [List.getD_eq_getElem?_getD, this]
            obtain ⟨h1, h2⟩ := getD_bool (st := ⟨st.tmps.set d (.bl want), st.heap, st.nx, st.lo⟩) hs' hb'
            have hy := yielded_of (ops := ops) rfl hd h1 h2
            have hw := wanted_some (y := yielded ops a.tmps) hg hy
            rw [if_pos (by rw [hw]; cases want <;> rfl)]
            exact run hs' (h.1 hbw)
          · have hbn : b = !want := by cases b <;> cases want <;> simp_all
            have hs' := hs.lit hb hbn
            have hb' : (st.tmps.set d (.bl (!want))).getD d .any = .bl (!want) := by
              have : d < st.tmps.length := by
                rcases Nat.lt_or_ge d st.tmps.length with hlt | hge
                · exact hlt
                · rw [List.getD_eq_getElem?_getD, List.getElem?_eq_none hge] at hb; cases hb
              simp [List.getD_eq_getElem?_getD, this]
            obtain ⟨h1, h2⟩ := getD_bool (st := ⟨st.tmps.set d (.bl (!want)), st.heap, st.nx, st.lo⟩) hs' hb'
            have hy := yielded_of (ops := ops) rfl hd h1 h2
            have hw := wanted_some (y := yielded ops a.tmps) hg hy
            rw [if_neg (by rw [hw]; cases want <;> decide)]
            exact ih (i + 1) (h.2 hbn) (hs'.skip _) hk
        · rename_i cs hb
          split at h
          · obtain ⟨h1, h2⟩ := getD_undef hs hb
            have hy := yielded_none (ops := ops) rfl hd h1 h2
            have hw := wanted_none (y := yielded ops a.tmps) hg hy
            rw [if_neg (by rw [hw]; decide)]
            exact ih (i + 1) h (hs.skip _) hk
          · exact h.elim
        · exact h.elim
      · exact h.elim
def plainC : Code → Bool
  | .seq a b => plainC a && plainC b
  | .cond _ a b => plainC a && plainC b
  | .block _ c => plainC c
  | .region _ _ draw => !draw
  | .loop _ | .rangeFunc _ _ _ _ | .scope _ | .goto _ | .refuse _ => false
  | _ => true
def TrR (r : Option Nat) (P : Program) (G : Gl) (c : Code) (st : St) (K : Exit → St → Prop) : Prop :=
  ∀ (cx : Cx) (I : Nat → Prop) (β : Vln) (a : Act) (w : World), Sat cx G I β st a w → c.wpIn (Fr r) 0 P (fun e a' w' => ∃ st' I' β', K e st' ∧ Sat cx G I' β' st' a' w') a w
theorem TrR.of {c : Code} {K : Exit → St → Prop} (h : Tr P G c st K) : TrR none P G c st K :=
  fun cx I β a w hs => (wpIn_wide (n := 0)).2 (h cx I β a w hs)
theorem TrR.tr {c : Code} {K : Exit → St → Prop} (h : TrR none P G c st K) : Tr P G c st K :=
  fun cx I β a w hs => (wpIn_wide (n := 0)).1 (h cx I β a w hs)
theorem vc_okR (hT : T.Ok P) (r : Option Nat) (c : Code) : ∀ {st : St} {K : Exit → St → Prop}, (r = none ∨ plainC c = true) → vc P G T Ar.real c st K → TrR r P G c st K := by
  induction c with
  | skip => intro st K hr h cx I β a w hs; exact wpIn_skip ⟨_, _, _, h, hs⟩
  | region id ops draw =>
    intro st K hr h cx I β a w hs
    unfold vc at h
    cases draw with
    | false => exact wpIn_region (wpOps_text (vcOps_ok hT r ops ops.toList 0 h hs (fun st' I' β' a' w' hK hs' => ⟨_, _, _, hK, hs'⟩)))
    | true =>
      obtain rfl : r = none := by rcases hr with hr | hr; exact hr; cases hr
      have := h.out id cx I β a w hs
      simp only [Array.toArray_toList] at this
      refine (wpIn_wide (n := 0)).2 (wp_mono this ?_)
      rintro e a w ⟨st', I', β', ⟨rfl, hK⟩, hs'⟩
      exact ⟨_, _, _, hK, hs'⟩
  | seq x y ihx ihy =>
    intro st K hr h cx I β a w hs
    unfold vc at h
    have hx : r = none ∨ plainC x = true := hr.imp id fun h => by simp only [plainC, Bool.and_eq_true] at h; exact h.1
    have hy : r = none ∨ plainC y = true := hr.imp id fun h => by simp only [plainC, Bool.and_eq_true] at h; exact h.2
    refine wpIn_seq (wpIn_mono (ihx hx h cx I β a w hs) ?_)
    rintro e a w ⟨st', I', β', hK, hs'⟩
    cases e with
    | normal => exact ihy hy hK cx I' β' a w hs'
    | _ => exact ⟨_, _, _, hK, hs'⟩
  | cond c x y ihx ihy =>
    intro st K hr h cx I β a w hs
    unfold vc at h
    have hx : r = none ∨ plainC x = true := hr.imp id fun h => by simp only [plainC, Bool.and_eq_true] at h; exact h.1
    have hy : r = none ∨ plainC y = true := hr.imp id fun h => by simp only [plainC, Bool.and_eq_true] at h; exact h.2
    have hc := hs.ev c
    split at h
    · rename_i b hb
      rw [hb] at hc
      have hv : a.eval c = .bool b := by
        generalize a.eval c = v at hc
        cases hc; rfl
      split at h
      · exact wpIn_cond_true hv (ihx hx h cx I β a w hs)
      · exact wpIn_cond_false hv (ihy hy h cx I β a w hs)
    · rename_i b hb
      rw [hb] at hc
      have hv : a.eval c = .bool b := by
        generalize a.eval c = v at hc
        cases hc; rfl
      refine wpIn_cond hv ?_
      cases b with
      | true => exact ihx hx (h.1 rfl) cx I β a w hs
      | false => exact ihy hy (h.2 rfl) cx I β a w hs
    · exact h.elim
  | block id c ih =>
    intro st K hr h cx I β a w hs
    unfold vc at h
    refine wpIn_block (wpIn_mono (ih (hr.imp _root_.id fun h => h) h cx I β a w hs) ?_)
    rintro e a w ⟨st', I', β', hK, hs'⟩
    cases e with
    | exit j =>
      simp only [blockK] at hK
      simp only [Exit.inBlock]
      split at hK
      · rename_i hj
        rw [if_pos (Nat.eq_of_beq_eq_true hj)]
        exact ⟨_, _, _, hK, hs'⟩
      · rename_i hj
        rw [if_neg (fun e => by subst e; simp at hj)]
        exact ⟨_, _, _, hK, hs'⟩
    | _ => exact ⟨_, _, _, hK, hs'⟩
  | loop c ih =>
    intro st K hr h
    obtain rfl : r = none := by rcases hr with hr | hr; exact hr; cases hr
    exact TrR.of h.out
  | exit id => intro st K hr h cx I β a w hs; exact wpIn_exit ⟨_, _, _, h, hs⟩
  | ret => intro st K hr h cx I β a w hs; exact wpIn_ret ⟨_, _, _, h, hs⟩
  | rangeFunc f ps x c =>
    intro st K hr h
    obtain rfl : r = none := by rcases hr with hr | hr; exact hr; cases hr
    exact TrR.of h.out
  | scope c ih =>
    intro st K hr h
    obtain rfl : r = none := by rcases hr with hr | hr; exact hr; cases hr
    refine TrR.of fun cx I β a w hs => ?_
    unfold vc at h
    refine wp_scope_straight (wp_mono ((TrR.tr (ih (.inl rfl) h)) cx I β a w hs) ?_)
    rintro e a w ⟨st', I', β', hK, hs'⟩
    cases e with
    | goto l => exact hK
    | _ => exact ⟨_, _, _, hK, hs'⟩
  | label l => intro st K hr h cx I β a w hs; exact wpIn_label ⟨_, _, _, h, hs⟩
  | goto => intro st K hr h; exact h.elim
  | refuse => intro st K hr h; exact h.elim
theorem vc_ok (hT : T.Ok P) (c : Code) {st : St} {K : Exit → St → Prop} (h : vc P G T Ar.real c st K) : Tr P G c st K :=
  TrR.tr (vc_okR hT none c (.inl rfl) h)
end
end Go.Eng
/-
  The symbolic executor: states that say less; other names for own blocks; loops.
-/
namespace Go.Eng
def SVle (x y : SV) : Prop := ∀ (w : World) (I : Nat → Prop) (β : Vln) (v : Value), Rep w I β x v → Rep w I β y v
theorem SVle.refl (x : SV) : SVle x x := fun _ _ _ _ h => h
theorem SVle.any (x : SV) : SVle x .any := fun _ _ _ v _ => .any v
theorem SVle.int {k : IntKind} {a b : Int} (h : a = b) : SVle (.int k a) (.int k b) := h ▸ SVle.refl _
theorem SVle.lit {k : IntKind} {a b : Int} (h : a = b) : SVle (.lit k a) (.int k b) := by
  subst h; intro w I β v h; cases h; exact .int _ _
theorem SVle.til {k : IntKind} {a b : Int} (h : a = b) : SVle (.int k a) (.lit k b) := by
  subst h; intro w I β v h; cases h; exact .lit _ _
theorem SVle.sb {a b : Bool} (h : a = b) : SVle (.bs a) (.bl b) := by
  subst h; intro w I β v h; cases h; exact .bl _
theorem SVle.bs {a b : Bool} (h : a = b) : SVle (.bs a) (.bs b) := h ▸ SVle.refl _
theorem SVle.bl {a b : Bool} (h : a = b) : SVle (.bl a) (.bs b) := by
  subst h; intro w I β v h; cases h; exact .bs _
theorem SVle.str {a b : List UInt8} (h : a = b) : SVle (.str a) (.str b) := h ▸ SVle.refl _
theorem SVle.sl {i sz : Nat} {off len off' len' : NV} (h1 : off.val = off'.val) (h2 : len.val = len'.val) : SVle (.sl i sz off len) (.sl i sz off' len') := by
  intro w I β v h
  cases h with
  | sl hb hc hl ho => rw [h2]; exact .sl hb (by rw [← h1]; exact hc) (by rw [← h2]; exact hl) (by rw [← h1]; exact ho)
  | sl0 hl A => exact .sl0 (by rw [← h2]; exact hl) A
theorem SVle.nils {sz : Nat} {n : NV} {f : NV → List SV} (h : n.val = 0) : SVle .nils (.ro sz n f) := by
  intro w I β v hv; cases hv; exact .ro0 _ _ h _ _ _
def Fle (sz : Nat) (n : Nat) (f g : NV → List SV) : Prop := ∀ e : NV, e.val < n → (f e).length = sz → (g e).length = sz ∧ ∀ j, j < sz → SVle ((f e).getD j .any) ((g e).getD j .any)
theorem SVle.ro {sz : Nat} {n m : NV} {f g : NV → List SV} (h : n.val = m.val) (hf : Fle sz n.val f g) : SVle (.ro sz n f) (.ro sz m g) := by
  intro w I β v hv
  cases hv with
  | ro0 _ _ hn _ A c => exact .ro0 _ _ (by rw [← h]; exact hn) _ _ _
  | ro hI hc hlen u h1 hcell hrep =>
    rw [h]
    rw [h] at hc h1 hcell hlen hrep hf
    exact .ro hI hc (fun e he => (hf e he (hlen e he)).1) u h1 hcell (fun e j he hj => (hf e he (hlen e he)).2 j hj _ _ _ _ (hrep e j he hj))
inductive SVles : List SV → List SV → Prop
  | nil : SVles [] []
  | cons {x y : SV} {xs ys : List SV} (h : SVle x y) (t : SVles xs ys) : SVles (x :: xs) (y :: ys)
theorem SVles.refl (xs : List SV) : SVles xs xs := by
  induction xs with
  | nil => exact .nil
  | cons x xs ih => exact .cons (SVle.refl _) ih
theorem SVles.length {xs ys : List SV} (h : SVles xs ys) : ys.length = xs.length := by
  induction h with
  | nil => rfl
  | cons _ _ ih => simp [ih]
theorem SVles.getD {xs ys : List SV} (h : SVles xs ys) : ∀ j, SVle (xs.getD j .any) (ys.getD j .any) := by
  induction h with
  | nil => intro j; exact SVle.refl _
  | cons hx _ ih =>
    intro j
    cases j with
    | zero => simpa using hx
    | succ j => simpa using ih j
theorem SVle.agg {xs ys : List SV} (h : SVles xs ys) : SVle (.agg xs) (.agg ys) := by
  intro w I β v hv
  cases hv with
  | agg hl hr => exact .agg (by rw [hl, h.length]) (fun j hj => h.getD j _ _ _ _ (hr j (by rw [← h.length]; exact hj)))
theorem SVle.tup {xs ys : List SV} (h : SVles xs ys) : SVle (.tup xs) (.tup ys) := by
  intro w I β v hv
  cases hv with
  | tup hl hr => exact .tup (by rw [hl, h.length]) (fun j hj => h.getD j _ _ _ _ (hr j (by rw [← h.length]; exact hj)))
theorem SVle.fn {k : Nat} {xs ys : List SV} (h : SVles xs ys) : SVle (.fn k xs) (.fn k ys) := by
  intro w I β v hv
  cases hv with
  | fn hl hr => exact .fn (by rw [h.length]; exact hl) (fun j hj => h.getD j _ _ _ _ (hr j (by rw [h.length] at hj; exact hj)))
def Blkle (x y : Blk) : Prop := ∀ (w : World) (I : Nat → Prop) (β : Vln) (b C : Nat), BlkOk w I β b C x → BlkOk w I β b C y
def BlkG (x y : Blk) : Prop := ∀ t sz n f, x = .row t sz n f → n.val = 0 → ∃ t' sz' n' f', y = .row t' sz' n' f' ∧ n'.val = 0
theorem Blkle.refl (x : Blk) : Blkle x x ∧ BlkG x x := ⟨fun _ _ _ _ _ h => h, fun t sz n f h hn => ⟨t, sz, n, f, h, hn⟩⟩
theorem Blkle.cells {t : TypeId} {cs ds : List SV} (h : SVles cs ds) : Blkle (.cells t cs) (.cells t ds) ∧ BlkG (.cells t cs) (.cells t ds) := by
  refine ⟨fun w I β b C hb => ?_, fun _ _ _ _ h => by cases h⟩
  obtain ⟨vs, fz, h1, h2, h3, h4⟩ := hb
  exact ⟨vs, fz, h1, h2, by rw [h3, h.length], fun j hj => h.getD j _ _ _ _ (h4 j (by rw [← h.length]; exact hj))⟩
theorem Blkle.row {t : TypeId} {sz : Nat} {n m : NV} {f g : NV → List SV} (h : n.val = m.val) (hf : Fle sz n.val f g) : Blkle (.row t sz n f) (.row t sz m g) ∧ BlkG (.row t sz n f) (.row t sz m g) := by
  refine ⟨fun w I β b C hb => ?_, fun _ _ _ _ e hn => ⟨_, _, _, _, rfl, by cases e; rw [← h]; exact hn⟩⟩
  obtain ⟨vs, fz, h1, h2, h3, h4, h5, h7, h6⟩ := hb
  rw [h] at h4 h5 h7 h6 hf
  exact ⟨vs, fz, h1, h2, h3, h4, fun e he => (hf e he (h5 e he)).1, h7, fun e j he hj => (hf e he (h5 e he)).2 j hj _ _ _ _ (h6 e j he hj)⟩
inductive Hle (H : Hl) : Hl → Prop
  | nil : Hle H []
  | cons {i : Nat} {x y : Blk} {r : Hl} (hx : look H i = some x) (h : Blkle x y ∧ BlkG x y) (t : Hle H r) : Hle H ((i, y) :: r)
theorem Hle.look {H H' : Hl} (h : Hle H H') : ∀ i y, look H' i = some y → ∃ x, look H i = some x ∧ Blkle x y ∧ BlkG x y := by
  induction h with
  | nil => intro i y h; cases h
  | cons hx hxy _ ih =>
    intro i y h
    unfold Eng.look at h
    split at h
    · rename_i e
      have e := Nat.eq_of_beq_eq_true e
      subst e
      cases h
      exact ⟨_, hx, hxy⟩
    · exact ih i y h
theorem Hp.le {cx : Cx} {I : Nat → Prop} {β : Vln} {H H' : Hl} {nx nx' : Nat} {w : World} (h : Hp cx I β (look H) nx w) (hl : Hle H H') (hn : nx ≤ nx') : Hp cx I β (look H') nx' w :=
  { h with
    fresh := fun i hi => h.fresh i (by omega)
    blk := fun i y hy => by
      obtain ⟨x, hx, h1, h2⟩ := hl.look i y hy
      rcases h.blk i x hx with ⟨b, C, q1, q2, q3, q4⟩ | ⟨q1, q2, t, sz, n, f, rfl, hz⟩
      · exact .inl ⟨b, C, q1, q2, q3, h1 _ _ _ _ _ q4⟩
      · obtain ⟨t', sz', n', f', rfl, hz'⟩ := h2 t sz n f rfl hz
        exact .inr ⟨q1, by omega, _, _, _, _, rfl, hz'⟩
    inj := fun i j b C D y z hy hz hi hj => by
      obtain ⟨x, hx, _⟩ := hl.look i y hy
      obtain ⟨x', hx', _⟩ := hl.look j z hz
      exact h.inj i j b C D x x' hx hx' hi hj }
structure StP (st st' : St) : Prop where
  tm : SVles st.tmps st'.tmps
  hp : Hle st.heap st'.heap
  nx : st.nx ≤ st'.nx
  lo : st'.lo = st.lo
theorem Sat.le {cx : Cx} {G : Gl} {I : Nat → Prop} {β : Vln} {st st' : St} {a : Act} {w : World} (h : Sat cx G I β st a w) (hl : StP st st') : Sat cx G I β st' a w where
  hp := h.hp.le hl.hp hl.nx
  tl := by rw [h.tl, hl.tm.length]
  tm := fun t => hl.tm.getD t _ _ _ _ (h.tm t)
  df := h.df
  gl := h.gl
  lo := by rw [hl.lo]; exact h.lo
  lon := by rw [hl.lo]; exact Nat.le_trans h.lon hl.nx
def lookR : List (Nat × Nat) → Nat → Option Nat
  | [], _ => none
  | (i, j) :: r, k => match Nat.beq i k with
    | true => some j
    | false => lookR r k
def backR : List (Nat × Nat) → Nat → Option Nat
  | [], _ => none
  | (i, j) :: r, k => match Nat.beq j k with
    | true => some i
    | false => backR r k
def isSome {α : Type} (o : Option α) : Bool :=
  match o with
  | some _ => true
  | none => false
def renId (N : Nat) (ρ : List (Nat × Nat)) (i : Nat) : Option Nat :=
  match lookR ρ i with
  | some j => some j
  | none => match Nat.blt i N && !(isSome (backR ρ i)) with
    | true => some i
    | false => none
def renOne (N : Nat) (ρ : List (Nat × Nat)) (s : SV) : SV :=
  match s with
  | .ptr i o => match renId N ρ i with
    | some j => .ptr j o
    | none => .any
  | .sl i sz off len => match renId N ρ i with
    | some j => .sl j sz off len
    | none => .any
  | .pe i sz e o => match renId N ρ i with
    | some j => .pe j sz e o
    | none => .any
  | .mp i => match renId N ρ i with
    | some j => .mp j
    | none => .any
  | .agg _ => .any
  | .tup _ => .any
  | .fn _ _ => .any
  | s => s
def renAgg (N : Nat) (ρ : List (Nat × Nat)) (s : SV) : SV :=
  match s with
  | .agg cs => .agg (cs.map (renOne N ρ))
  | s => renOne N ρ s
def renSV (N : Nat) (ρ : List (Nat × Nat)) (s : SV) : SV :=
  match s with
  | .agg cs => .agg (cs.map (renOne N ρ))
  | .tup cs => .tup (cs.map (renAgg N ρ))
  | .fn k cs => .fn k (cs.map (renOne N ρ))
  | s => renOne N ρ s
def renBlk (N : Nat) (ρ : List (Nat × Nat)) (x : Blk) : Blk :=
  match x with
  | .cells t cs => .cells t (cs.map (renSV N ρ))
  | .lp l ps x c tms s pe => .lp l ps x c (tms.map (renSV N ρ)) s pe
  | x => x
def renH (N : Nat) (ρ : List (Nat × Nat)) : Hl → Hl
  | [] => []
  | (i, x) :: r => match renId N ρ i with
    | some j => (j, renBlk N ρ x) :: renH N ρ r
    | none => renH N ρ r
def renOk (lo : Nat) : List (Nat × Nat) → Bool
  | [] => true
  | (i, j) :: r => Nat.ble lo j && !(isSome (backR r j)) && renOk lo r
def renNx (N : Nat) : List (Nat × Nat) → Nat
  | [] => N
  | (_, j) :: r => Nat.max (j + 1) (renNx N r)
def renSt (N : Nat) (ρ : List (Nat × Nat)) (st : St) : St :=
  ⟨st.tmps.map (renSV N ρ), renH N ρ st.heap, renNx N ρ, st.lo⟩
section
variable {cx : Cx} {G : Gl} {w : World} {I : Nat → Prop} {β : Vln} {st : St} {a : Act}
def renβ (N : Nat) (ρ : List (Nat × Nat)) (β : Vln) : Vln := fun j =>
  match backR ρ j with
  | some i => β i
  | none => if j < N then β j else none
theorem backR_of_lookR {lo : Nat} {ρ : List (Nat × Nat)} (hok : renOk lo ρ = true) {i j : Nat} (h : lookR ρ i = some j) : backR ρ j = some i := by
  induction ρ with
  | nil => cases h
  | cons p r ih =>
    obtain ⟨a, b⟩ := p
    simp only [renOk, Bool.and_eq_true] at hok
    unfold lookR at h
    split at h
    · rename_i e
      have e := Nat.eq_of_beq_eq_true e
      subst e
      cases h
      simp [backR]
    · have := ih hok.2 h
      unfold backR
      split
      · rename_i e
        have e := Nat.eq_of_beq_eq_true e
        subst e
        have h2 := hok.1.2
        rw [this] at h2
        simp [isSome] at h2
      · exact this
theorem backR_lo {lo : Nat} {ρ : List (Nat × Nat)} (hok : renOk lo ρ = true) {i j : Nat} (h : backR ρ j = some i) : lo ≤ j := by
  induction ρ with
  | nil => cases h
  | cons p r ih =>
    obtain ⟨a, b⟩ := p
    simp only [renOk, Bool.and_eq_true] at hok
    unfold backR at h
    split at h
    · rename_i e
      have e := Nat.eq_of_beq_eq_true e
      subst e
      exact Nat.le_of_ble_eq_true hok.1.1
    · exact ih hok.2 h
theorem backR_nx {N : Nat} {ρ : List (Nat × Nat)} {i j : Nat} (h : backR ρ j = some i) : j < renNx N ρ := by
  induction ρ with
  | nil => cases h
  | cons p r ih =>
    obtain ⟨a, b⟩ := p
    unfold backR at h
    simp only [renNx]
    split at h
    · rename_i e
      have e := Nat.eq_of_beq_eq_true e
      subst e
      have := Nat.le_max_left (b + 1) (renNx N r)
      show b < Nat.max (b + 1) (renNx N r)
      exact Nat.lt_of_lt_of_le (Nat.lt_succ_self b) this
    · exact Nat.lt_of_lt_of_le (ih h) (Nat.le_max_right _ _)
theorem le_renNx (N : Nat) (ρ : List (Nat × Nat)) : N ≤ renNx N ρ := by
  induction ρ with
  | nil => exact Nat.le_refl _
  | cons p r ih => exact Nat.le_trans ih (Nat.le_max_right _ _)
theorem renβ_of {lo N : Nat} {ρ : List (Nat × Nat)} (hok : renOk lo ρ = true) {i j : Nat} (h : renId N ρ i = some j) : renβ N ρ β j = β i := by
  unfold renId at h
  unfold renβ
  split at h
  · rename_i j' hj
    cases h
    rw [backR_of_lookR hok hj]
  · split at h
    · rename_i hc
      cases h
      simp only [Bool.and_eq_true] at hc
      have hb : backR ρ i = none := by
        cases hb : backR ρ i with
        | none => rfl
        | some k => rw [hb] at hc; simp [isSome] at hc
      rw [hb]
      rw [if_pos (by simpa using hc.1)]
    · cases h
theorem renOne_ok {lo N : Nat} {ρ : List (Nat × Nat)} (hok : renOk lo ρ = true) {s : SV} {v : Value} (h : Rep w I β s v) : Rep w I (renβ N ρ β) (renOne N ρ s) v := by
  cases h with
  | any v => exact .any v
  | lit k n => exact .lit k n
  | int k n => exact .int k n
  | bl b => exact .bl b
  | bs b => exact .bs b
  | con v => exact .con v
  | nilp => exact .nilp
  | nils A => exact .nils A
  | str s => exact .str s
  | ptr hb =>
    simp only [renOne]
    split
    · rename_i j hr; exact .ptr ((renβ_of hok hr).trans hb)
    · exact .any _
  | sl hb hc hl ho =>
    simp only [renOne]
    split
    · rename_i j hr; exact .sl ((renβ_of hok hr).trans hb) hc hl ho
    · exact .any _
  | sl0 hl A =>
    simp only [renOne]
    split
    · rename_i j hr; exact .sl0 hl A
    · exact .any _
  | pe hb =>
    simp only [renOne]
    split
    · rename_i j hr; exact .pe ((renβ_of hok hr).trans hb)
    · exact .any _
  | mp hb =>
    simp only [renOne]
    split
    · rename_i j hr; exact .mp ((renβ_of hok hr).trans hb)
    · exact .any _
  | ro0 sz n hn f A c => exact .ro0 sz n hn f A c
  | ro hb hc hlen u h1 hcell hrep => exact .ro hb hc hlen u h1 hcell hrep
  | rp hb u hcell hrep => exact .rp hb u hcell hrep
  | ra hb hlen u hcell hrep => exact .ra hb hlen u hcell hrep
  | agg hl h => exact .any _
  | tup hl h => exact .any _
  | fn hl h => exact .any _
theorem map_getD' (f : SV → SV) (hf : f .any = .any) (cs : List SV) (j : Nat) : (cs.map f).getD j .any = f (cs.getD j .any) := by
  simp only [List.getD_eq_getElem?_getD, List.getElem?_map]
  cases cs[j]? <;> simp [hf]
theorem renAgg_ok {lo N : Nat} {ρ : List (Nat × Nat)} (hok : renOk lo ρ = true) {s : SV} {v : Value} (h : Rep w I β s v) : Rep w I (renβ N ρ β) (renAgg N ρ s) v := by
  unfold renAgg
  split
  · cases h with
    | agg hl h => exact .agg (by simpa using hl) (fun j hj => by rw [map_getD' _ rfl]; exact renOne_ok hok (h j (by simpa using hj)))
  · exact renOne_ok hok h
theorem renSV_ok {lo N : Nat} {ρ : List (Nat × Nat)} (hok : renOk lo ρ = true) {s : SV} {v : Value} (h : Rep w I β s v) : Rep w I (renβ N ρ β) (renSV N ρ s) v := by
  cases h with
  | agg hl h => exact .agg (by simpa using hl) (fun j hj => by rw [map_getD' _ rfl]; exact renOne_ok hok (h j (by simpa using hj)))
  | tup hl h => exact .tup (by simpa using hl) (fun j hj => by rw [map_getD' _ rfl]; exact renAgg_ok hok (h j (by simpa using hj)))
  | fn hl h => exact .fn (by simpa using hl) (fun j hj => by rw [map_getD' _ rfl]; exact renOne_ok hok (h j (by simpa using hj)))
  | any v => exact .any v
  | lit k n => exact .lit k n
  | int k n => exact .int k n
  | bl b => exact .bl b
  | bs b => exact .bs b
  | con v => exact .con v
  | nilp => exact .nilp
  | nils A => exact .nils A
  | str s => exact .str s
  | ptr hb => exact renOne_ok hok (.ptr hb)
  | sl hb hc hl ho => exact renOne_ok hok (.sl hb hc hl ho)
  | sl0 hl A => exact renOne_ok hok (.sl0 hl A)
  | pe hb => exact renOne_ok hok (.pe hb)
  | mp hb => exact renOne_ok hok (.mp hb)
  | ro0 sz n hn f A c => exact .ro0 sz n hn f A c
  | ro hb hc hlen u h1 hcell hrep => exact .ro hb hc hlen u h1 hcell hrep
  | rp hb u hcell hrep => exact .rp hb u hcell hrep
  | ra hb hlen u hcell hrep => exact .ra hb hlen u hcell hrep
theorem renH_look {N : Nat} {ρ : List (Nat × Nat)} (H : Hl) {j : Nat} {y : Blk} (h : look (renH N ρ H) j = some y) : ∃ i x, renId N ρ i = some j ∧ look H i = some x ∧ y = renBlk N ρ x := by
  induction H with
  | nil => cases h
  | cons p r ih =>
    obtain ⟨k, x⟩ := p
    unfold renH at h
    have hrest : look (renH N ρ r) j = some y → renId N ρ k ≠ some j → ∃ i x', renId N ρ i = some j ∧ look ((k, x) :: r) i = some x' ∧ y = renBlk N ρ x' := by
      intro hl hne
      obtain ⟨i, x', h1, h2, h3⟩ := ih hl
      refine ⟨i, x', h1, ?_, h3⟩
      simp only [look]
      rw [show Nat.beq k i = false from by cases hb : Nat.beq k i with | false => rfl | true => exact absurd (Nat.eq_of_beq_eq_true hb ▸ h1) hne]
      exact h2
    split at h
    · rename_i j' hj'
      simp only [look] at h
      split at h
      · rename_i e
        have e := Nat.eq_of_beq_eq_true e
        subst e
        cases h
        exact ⟨k, x, hj', by simp [look], rfl⟩
      · rename_i e
        exact hrest h (fun e' => by rw [hj'] at e'; cases e'; simp at e)
    · rename_i hj'
      exact hrest h (fun e' => by rw [hj'] at e'; cases e')
theorem Sat.ren (h : Sat cx G I β st a w) {N : Nat} {ρ : List (Nat × Nat)} (hok : renOk st.lo ρ = true) (hN : st.lo ≤ N) : Sat cx G I (renβ N ρ β) (renSt N ρ st) a w where
  hp := by
    refine { h.hp with βbase := ?_, blt := ?_, fresh := ?_, blk := ?_, inj := ?_ }
    · intro i x hx
      have hi : i < st.lo := by
        rcases Nat.lt_or_ge i st.lo with hlt | hge
        · exact hlt
        · rw [h.lo i hge] at hx; cases hx
      have hb : backR ρ i = none := by
        cases hb : backR ρ i with
        | none => rfl
        | some k => have := backR_lo hok hb; omega
      unfold renβ
      rw [hb]
      simp only [show i < N by omega, if_true]
      exact h.hp.βbase i x hx
    · intro i b C hb
      unfold renβ at hb
      split at hb
      · exact h.hp.blt _ _ _ hb
      · split at hb
        · exact h.hp.blt _ _ _ hb
        · cases hb
    · intro i hi
      simp only [renSt] at hi
      have hb : backR ρ i = none := by
        cases hb : backR ρ i with
        | none => rfl
        | some k => have := backR_nx (N := N) hb; omega
      have := le_renNx N ρ
      unfold renβ
      rw [hb]
      rw [if_neg (by omega)]
    · intro j y hy
      obtain ⟨i, x, h1, h2, rfl⟩ := renH_look st.heap hy
      rcases h.hp.blk i x h2 with ⟨b, C, q1, q2, q3, q4⟩ | ⟨q1, q2, t, sz, n, f, rfl, hz⟩
      · refine .inl ⟨b, C, (renβ_of hok h1).trans q1, q2, q3, ?_⟩
        cases x with
        | cells t cs =>
          obtain ⟨vs, fz, k1, k2, k3, k4⟩ := q4
          exact ⟨vs, fz, k1, k2, by simpa using k3, fun j hj => by rw [map_getD' _ rfl]; exact renSV_ok hok (k4 j (by simpa using hj))⟩
        | row t sz n f => exact q4
        | rowc t sz n bb cp f => exact q4
        | obj o => exact q4
        | wm sz L => exact q4
        | num mb o => exact q4
        | lp l ps x c tms s pe =>
          obtain ⟨k0, tv, fn, D, k1, k2, k3⟩ := q4
          exact ⟨k0, tv, fn, D, k1, by simpa using k2, fun j hj => by rw [map_getD' _ rfl]; exact renSV_ok hok (k3 j (by simpa using hj))⟩
      · refine .inr ⟨(renβ_of hok h1).trans q1, ?_, _, _, _, _, rfl, hz⟩
        simp only [renSt]
        unfold renId at h1
        split at h1
        · rename_i j' hj'
          cases h1
          exact backR_nx (backR_of_lookR hok hj')
        · split at h1
          · rename_i hc
            cases h1
            simp only [Bool.and_eq_true] at hc
            exact Nat.lt_of_lt_of_le (by simpa using hc.1) (le_renNx N ρ)
          · cases h1
    · intro j k b C D y z hy hz hj hk
      obtain ⟨i, x, h1, h2, rfl⟩ := renH_look st.heap hy
      obtain ⟨i', x', h1', h2', rfl⟩ := renH_look st.heap hz
      rw [renβ_of hok h1] at hj
      rw [renβ_of hok h1'] at hk
      have e := h.hp.inj i i' b C D x x' h2 h2' hj hk
      subst e
      rw [h1] at h1'
      cases h1'
      rfl
  tl := by simp only [renSt, List.length_map]; exact h.tl
  tm := fun t => by
    simp only [renSt]
    rw [map_getD' _ rfl]
    exact renSV_ok hok (h.tm t)
  df := h.df
  gl := h.gl
  lo := h.lo
  lon := Nat.le_trans hN (le_renNx N ρ)
end
end Go.Eng
/-
  The symbolic executor: loops; functions.
-/
namespace Go.Eng
structure Round {α : Type} (inv : α → St) (p : α → Prop) (m : α → Nat) (lim : Nat) (st : St) : Prop where
  out : ∃ a N ρ, p a ∧ m a < lim ∧ renOk st.lo ρ = true ∧ st.lo ≤ N ∧ StP (renSt N ρ st) (inv a)
theorem Round.to {α : Type} {inv : α → St} {p : α → Prop} {m : α → Nat} {lim : Nat} {st : St} (a : α) (N : Nat) (ρ : List (Nat × Nat)) (hN : Nat.ble st.lo N = true) (hok : renOk st.lo ρ = true) (h : StP (renSt N ρ st) (inv a)) (hm : m a < lim) (hp : p a) : Round inv p m lim st :=
  ⟨a, N, ρ, hp, hm, hok, Nat.le_of_ble_eq_true hN, h⟩
section
variable {P : Program} {G : Gl} {T : Tab}
theorem LS.inv {α : Type} {c : Code} {st : St} {K : Exit → St → Prop} (inv : α → St) (p : α → Prop) (m : α → Nat) (a0 : α) (N0 : Nat) (ρ0 : List (Nat × Nat)) (hT : T.Ok P) (hN : Nat.ble st.lo N0 = true) (hok : renOk st.lo ρ0 = true)
    (h0 : StP (renSt N0 ρ0 st) (inv a0)) (hp0 : p a0) (body : ∀ a, p a → vc P G T Ar.real c (inv a) (seqK (Round inv p m (m a)) K)) : LS P G c st K where
  out := by
    intro cx I β a w hs
    have hs0 := (hs.ren hok (Nat.le_of_ble_eq_true hN)).le h0
    refine wp_loop_ghost (fun n a w => ∃ g I β, m g = n ∧ p g ∧ Sat cx G I β (inv g) a w) (m a0) ⟨a0, I, _, rfl, hp0, hs0⟩ ?_
    rintro n a w ⟨g, I, β, rfl, hg, hs⟩
    refine wp_mono (vc_ok hT c (body g hg) cx I β a w hs) ?_
    rintro e a w ⟨st', I', β', hK, hs'⟩
    cases e with
    | normal =>
      obtain ⟨g', N, ρ, hp', hm', hok', hN', hle⟩ := hK.out
      exact ⟨m g', hm', g', I', _, rfl, hp', (hs'.ren hok' hN').le hle⟩
    | _ => exact ⟨_, _, _, hK, hs'⟩
def vcRounds (P : Program) (G : Gl) (T : Tab) (A : Ar) (c : Code) : Nat → St → (Exit → St → Prop) → Prop
  | 0, _, _ => False
  | n + 1, st, K => vc P G T A c st (seqK (fun st' => vcRounds P G T A c n st' K) K)
theorem vcRounds_ok (hT : T.Ok P) {c : Code} {K : Exit → St → Prop} {cx : Cx} : ∀ (n : Nat) {st : St} {I : Nat → Prop} {β : Vln} {a : Act} {w : World}, vcRounds P G T Ar.real c n st K → Sat cx G I β st a w →
    Code.rounds P c (fun e a' w' => ∃ st' I' β', K e st' ∧ Sat cx G I' β' st' a' w') n a w := by
  intro n
  induction n with
  | zero => intro st I β a w h _; exact h.elim
  | succ n ih =>
    intro st I β a w h hs
    rw [rounds_succ]
    refine wp_mono (vc_ok hT c h cx I β a w hs) ?_
    rintro e a w ⟨st', I', β', hK, hs'⟩
    cases e with
    | normal => exact ih hK hs'
    | _ => exact ⟨_, _, _, hK, hs'⟩
theorem LS.unroll (n : Nat) {c : Code} {st : St} {K : Exit → St → Prop} (hT : T.Ok P) (h : vcRounds P G T Ar.real c n st K) : LS P G c st K where
  out := fun cx I β a w hs => wp_loop_rounds n (vcRounds_ok hT n h hs)
end
theorem Tab.ok_of_map {P : Program} {T : Tab} (h : T.map (fun p => tiOf P p.1) = T.map (fun p => some p.2)) : T.Ok P := by
  induction T with
  | nil => intro p hp; cases hp
  | cons q r ih =>
    intro p hp
    simp only [List.map_cons, List.cons.injEq] at h
    rcases List.mem_cons.1 hp with rfl | hp
    · exact h.1
    · exact ih h.2 p hp
def bodyOf (f : Func) : Code :=
  match f.body with
  | some c => c
  | none => .skip
structure FnTr (P : Program) (G : Gl) (f : Nat) (args : List SV) (H : Hl) (k : Nat) (K : SV → Hl → Nat → Prop) : Prop where
  ent : Go.Proofs.Enters P f
  out : ∀ (cx : Cx) (I : Nat → Prop) (β : Vln) (w : World) (cargs : Array Value), Hp cx I β (look H) k w → (∀ p ∈ G, Rep w I Vln.no p.2 (.pointer (some ⟨p.1, 0, none⟩))) → (∀ i, k ≤ i → cx.β0 i = none) →
    cargs.size = args.length → (∀ j, Rep w I β (args.getD j .any) (cargs.getD j undef)) →
    Calls P f cargs w fun e w' => ∃ v r H' n' I' β', e = .returned v ∧ K r H' n' ∧ Hp cx I' β' (look H') n' w' ∧ Rep w' I' β' r v
def happ : Hl → Hl → Hl
  | [], r => r
  | x :: r, s => x :: happ r s
def GhOk (lo hi : Nat) : Hl → Prop
  | [] => True
  | (i, x) :: r => (lo ≤ i ∧ i < hi ∧ ∃ t sz n f, x = .row t sz n f ∧ n.val = 0) ∧ GhOk lo hi r
theorem Hp.ghosts {cx : Cx} {I : Nat → Prop} {β : Vln} {H : Hl} {lo hi : Nat} {w : World} (h : Hp cx I β (look H) hi w) (hβ : ∀ i, lo ≤ i → β i = none) : ∀ gs : Hl, GhOk lo hi gs → Hp cx I β (look (happ gs H)) hi w := by
  intro gs
  induction gs with
  | nil => intro _; exact h
  | cons p r ih =>
    obtain ⟨i, x⟩ := p
    rintro ⟨⟨h1, h2, t, sz, n, f, rfl, hn⟩, hr⟩
    have := (ih hr).ghost (n := i) (t := t) (sz := sz) (m := n) (f := f) (hβ i h1) h2 hn
    have e : look (happ ((i, Blk.row t sz n f) :: r) H) = HF.upd (look (happ r H)) i (some (.row t sz n f)) := by
      funext j
      unfold HF.upd
      simp only [happ, look]
      by_cases e : j = i
      · subst e; simp
      · rw [if_neg e, show Nat.beq i j = false from by cases hb : Nat.beq i j with | false => rfl | true => exact absurd (Nat.eq_of_beq_eq_true hb).symm e]
    rw [e]
    exact this
structure Fin (lo : Nat) (r : SV) (H : Hl) (K : SV → Hl → Nat → Prop) : Prop where
  out : ∃ N ρ gs r' H' n', renOk lo ρ = true ∧ lo ≤ N ∧ SVle (renSV N ρ r) r' ∧ Hle (happ gs (renH N ρ H)) H' ∧ renNx N ρ ≤ n' ∧ GhOk (renNx N ρ) n' gs ∧ K r' H' n'
def resOne (T : Tab) (A : Ar) (hp : HF) (tm : List SV) (x : ResultVar) : Option (Prop × SV) :=
  match x with
  | .tmp t => some (True, tm.getD t .any)
  | .cell a t => match T.get t with
    | some ti => match loadOwn A hp ti (tm.getD a .any) with
      | some (p, r, _) => some (p, r)
      | none => none
    | none => none
def resList (T : Tab) (A : Ar) (hp : HF) (tm : List SV) : List ResultVar → Option (Prop × List SV)
  | [] => some (True, [])
  | x :: r => match resOne T A hp tm x with
    | some (p, s) => match resList T A hp tm r with
      | some (q, rs) => some (p ∧ q, s :: rs)
      | none => none
    | none => none
def resOf (rs : List SV) : SV :=
  match rs with
  | [x] => x
  | rs => .tup rs
section
variable {P : Program} {cx : Cx} {w : World} {I : Nat → Prop} {β : Vln} {G : Gl} {st : St} {a : Act}
def resRun (tmps : Array Value) (x : ResultVar) : Sem Value :=
  match x with
  | .tmp t => pure (tmps.getD t undef)
  | .cell a t => do loadVar t (← asAddr (tmps.getD a undef))
theorem resOne_ok {T : Tab} (hT : T.Ok P) {x : ResultVar} {p : Prop} {r : SV} (h : resOne T Ar.real (look st.heap) st.tmps x = some (p, r)) (hp : p) (hs : Sat cx G I β st a w) :
    ∃ v, (resRun a.tmps x).run P w = .ok v w ∧ Rep w I β r v := by
  unfold resOne at h
  cases x with
  | tmp t => cases h; exact ⟨_, rfl, hs.tm t⟩
  | cell ad t =>
    simp only at h
    split at h
    · rename_i ti hti
      split at h
      · rename_i p' r' rd hl
        cases h
        obtain ⟨z, hz, hr⟩ := loadOwn_ok (hT.get hti) hl hp (hs.tm ad) hs.hp
        refine ⟨z, ?_, hr⟩
        simp only [resRun]
        unfold Instr.loadAt at hz
        generalize a.tmps.getD ad undef = u at hz ⊢
        cases u with
        | pointer q =>
          cases q with
          | some q => simpa [Instr.sureAddr, asAddr] using hz
          | none => simp [Instr.sureAddr, stuck] at hz
        | _ => simp [Instr.sureAddr, stuck] at hz
      · cases h
    · cases h
theorem resList_ok {T : Tab} (hT : T.Ok P) (hs : Sat cx G I β st a w) (xs : List ResultVar) : ∀ {p : Prop} {rs : List SV}, resList T Ar.real (look st.heap) st.tmps xs = some (p, rs) → p →
    ∃ vs : List Value, (xs.mapM (resRun a.tmps)).run P w = .ok vs w ∧ vs.length = rs.length ∧ ∀ j, j < rs.length → Rep w I β (rs.getD j .any) (vs.getD j undef) := by
  induction xs with
  | nil =>
    intro p rs h hp
    cases h
    exact ⟨[], by simp, rfl, fun j hj => by simp at hj⟩
  | cons x xs ih =>
    intro p rs h hp
    unfold resList at h
    split at h
    · rename_i p' s hx
      split at h
      · rename_i q rs' hr
        cases h
        obtain ⟨v, h1, h2⟩ := resOne_ok hT hx hp.1 hs
        obtain ⟨vs, k1, k2, k3⟩ := ih hr hp.2
        refine ⟨v :: vs, ?_, by simp [k2], fun j hj => ?_⟩
        · simp [List.mapM_cons, h1, k1]
        · cases j with
          | zero => simpa using h2
          | succ j => simpa using k3 j (by simpa using hj)
      · cases h
    · cases h
theorem results_ok {T : Tab} (hT : T.Ok P) (hs : Sat cx G I β st a w) {fn : Func} {p : Prop} {rs : List SV} (h : resList T Ar.real (look st.heap) st.tmps fn.results.toList = some (p, rs)) (hp : p) :
    ∃ v, (results fn a.tmps).run P w = .ok v w ∧ Rep w I β (resOf rs) v := by
  obtain ⟨vs, h1, h2, h3⟩ := resList_ok hT hs _ h hp
  have e : results fn a.tmps = (do let vs ← fn.results.mapM (resRun a.tmps); pure (if h : vs.size = 1 then vs[0] else .tuple vs)) := by
    unfold results
    congr 1
  rw [e, Array.mapM_eq_mapM_toList]
  have h1' : (List.toArray <$> fn.results.toList.mapM (resRun a.tmps)).run P w = .ok vs.toArray w := by simp [h1]
  simp only [Sem.run_bind, h1', Result.andThen_ok, Sem.run_pure]
  refine ⟨_, rfl, ?_⟩
  split
  · rename_i hl
    have hl' : vs.length = 1 := by simpa using hl
    have e1 : vs.toArray[0] = vs.getD 0 undef := by
      have : 0 < vs.length := by omega
      simp [List.getD_eq_getElem?_getD, this]
    have e2 : resOf rs = rs.getD 0 .any := by
      match rs, h2 with
      | [r], _ => rfl
      | [], h2 => exact absurd (h2.symm.trans hl') (by decide)
      | _ :: _ :: _, h2 => have h3 := h2.symm.trans hl'; simp at h3
    rw [e1, e2]
    exact h3 0 (by omega)
  · rename_i hl
    have hl' : vs.length ≠ 1 := by simpa using hl
    have : resOf rs = .tup rs := by
      match rs, h2 with
      | [r], h2 => exact absurd h2 hl'
      | [], _ => rfl
      | _ :: _ :: _, _ => rfl
    rw [this]
    exact .tup (by simpa using h2) (fun j hj => by simpa using h3 j hj)
end
def retK (T : Tab) (A : Ar) (rs : List ResultVar) (K : SV → Hl → Nat → Prop) (e : Exit) (st : St) : Prop :=
  match e with
  | .normal | .ret => match resList T A (look st.heap) st.tmps rs with
    | some (p, xs) => p ∧ Fin st.lo (resOf xs) st.heap K
    | none => False
  | _ => False
def padTo (xs : List SV) (n : Nat) : List SV := xs ++ List.replicate (n - xs.length) .any
theorem leaves_marks {P : Program} {G : Gl} {cx : Cx} {I : Nat → Prop} {β : Vln} {st : St} {a0 : Act} {fn : Func} {R : Ending → World → Prop} (h0 : a0.defers = cx.D) :
    ∀ (ms : List Deferred) (w : World), (∀ m ∈ ms, MarkOk cx.w0.heap.size I w m) → ms.Nodup → Sat cx G I β st a0 w → (∀ w', Sat cx G I β st a0 w' → LeavesIn Fence.wide 0 P fn a0.tmps R [] .returning w') → LeavesInM Fence.wide 0 P fn a0.tmps R ms .returning w := by
  intro ms
  induction ms with
  | nil => intro w _ _ hs hk; exact hk w hs
  | cons m ms ih =>
    intro w hm hn hs hk
    obtain ⟨D, rfl, hI, hD, ho⟩ := hm m (List.mem_cons_self ..)
    have hsame : ∀ b, b ≠ D → (w.putObj D (.deferred none)).heap[b]? = w.heap[b]? := fun b hb => World.putObj_heap_other hb
    have hcell : ∀ a v, w.cell? a = some v → (w.putObj D (.deferred none)).cell? a = some v := by
      intro a v hv
      have hne : a.block ≠ D := by
        intro e
        unfold World.cell? at hv
        rw [e, ho] at hv
        cases hv
      exact (World.cell?_of_block (hsame _ hne)).trans hv
    refine ⟨by simp, .inl ⟨D, _, rfl, run_takeDeferred ho, ?_⟩⟩
    have hh := hs.hp.aside hI hD (w' := w.putObj D (.deferred none)) rfl rfl rfl (by simp [World.putObj]) hsame hcell
    refine ih _ (fun m hm' => ?_) (List.nodup_cons.1 hn).2 ?_ hk
    · obtain ⟨D', rfl, k2, k3, k4⟩ := hm m (List.mem_cons_of_mem _ hm')
      exact ⟨D', rfl, k2, k3, (hsame _ (fun e => (List.nodup_cons.1 hn).1 (e ▸ hm'))).trans k4⟩
    · exact { hp := hh, tl := hs.tl, tm := fun t => (hs.tm t).cellsMono hcell, df := ⟨[], h0, List.nodup_nil, fun m hm => by cases hm⟩, gl := fun p hp => (hs.gl p hp).cellsMono hcell, lo := hs.lo, lon := hs.lon }
theorem FnTr.intro {P : Program} {G : Gl} {T : Tab} {f : Nat} {fn : Func} {c : Code} {args : List SV} {H : Hl} {k : Nat} {K : SV → Hl → Nat → Prop} (hf : P.funcs[f]? = some fn) (hname : (fn.name == "runtime.NumGoroutine") = false) (hb : fn.body = some c) (hT : T.Ok P)
    (h : vc P G T Ar.real c ⟨padTo args fn.ntmps, H, k, k⟩ (retK T Ar.real fn.results.toList K)) : FnTr P G f args H k K where
  ent := Go.Proofs.enters_of hf hname hb
  out := by
    intro cx I β w cargs hh hg hβ hl hr
    refine callsIn_wide.1 (callsIn_of_wp_marks (F := Fence.wide) (n := 0) hf hb trivial ((wpIn_wide (n := 0)).2 ?_))
    have hs : Sat { cx with D := [] } G I β ⟨padTo args fn.ntmps, H, k, k⟩ { tmps := cargs ++ Array.replicate (fn.ntmps - cargs.size) undef, defers := [] } w := by
      refine { hp := { hh with }, tl := by simp [padTo, hl], tm := fun t => ?_, df := ⟨[], rfl, List.nodup_nil, fun m hm => by cases hm⟩, gl := hg, lo := hβ, lon := Nat.le_refl _ }
      simp only [padTo]
      by_cases ht : t < args.length
      · have h1 : (args ++ List.replicate (fn.ntmps - args.length) SV.any).getD t .any = args.getD t .any := by simp [List.getD_eq_getElem?_getD, List.getElem?_append_left ht]
        have h2 : (cargs ++ Array.replicate (fn.ntmps - cargs.size) undef).getD t undef = cargs.getD t undef := by
          have : t < cargs.size := by omega
          simp [Array.getD_eq_getD_getElem?, Array.getElem?_append_left this]
        rw [h1, h2]
        exact hr t
      · have h1 : (args ++ List.replicate (fn.ntmps - args.length) SV.any).getD t .any = .any := by
          simp only [List.getD_eq_getElem?_getD]
          rw [List.getElem?_append_right (by omega)]
          rw [List.getElem?_replicate]
          split <;> rfl
        rw [h1]
        exact .any _
    refine wp_mono (vc_ok hT c h { cx with D := [] } I β _ w hs) ?_
    rintro e a w ⟨st', I', β', hK, hs'⟩
    have fin : ∀ e', (e' = .normal ∨ e' = .ret) → retK T Ar.real fn.results.toList K e' st' →
        LeavesInM Fence.wide 0 P fn a.tmps (fun e w' => ∃ v r H' n' I' β', e = .returned v ∧ K r H' n' ∧ Hp cx I' β' (look H') n' w' ∧ Rep w' I' β' r v) a.defers .returning w := by
      intro e' he' hK
      have hK : match resList T Ar.real (look st'.heap) st'.tmps fn.results.toList with
        | some (p, xs) => p ∧ Fin st'.lo (resOf xs) st'.heap K
        | none => False := by rcases he' with rfl | rfl <;> exact hK
      split at hK
      · rename_i p xs hx
        obtain ⟨hp, hfin⟩ := hK
        obtain ⟨N, ρ, gs, r', H', n', k1, k2, k3, k4, k5, kg, k6⟩ := hfin.out
        obtain ⟨ms, hms, hnd, hmk⟩ := hs'.df
        rw [List.append_nil] at hms
        rw [hms]
        refine leaves_marks (cx := { cx with D := [] }) (a0 := { a with defers := [] }) rfl ms w hmk hnd { hs' with df := ⟨[], rfl, List.nodup_nil, fun m hm => by cases hm⟩ } fun w' hs2 => ?_
        obtain ⟨v, hv, hrv⟩ := results_ok hT hs2 hx hp
        have hs3 := hs2.ren k1 k2
        refine ⟨v, hv, v, r', H', n', I', _, rfl, k6, ?_, k3 _ _ _ _ (renSV_ok k1 hrv)⟩
        have := ((hs3.hp.nx_le k5).ghosts (fun i hi => hs3.hp.fresh i hi) gs kg).le k4 (Nat.le_refl _)
        exact { this with }
      · exact hK.elim
    cases e with
    | normal => exact fin .normal (.inl rfl) hK
    | ret => exact fin .ret (.inr rfl) hK
    | _ => exact hK.elim
end Go.Eng
/-
  The symbolic executor: calls.
-/
namespace Go.Eng
def outId (nx : Nat) (ρ : List (Nat × Nat)) (i : Nat) : Nat :=
  match backR ρ i with
  | some j => j
  | none => nx + i
def mvFlat (σ : Nat → Nat) (s : SV) : SV :=
  match s with
  | .ptr i o => .ptr (σ i) o
  | .sl i sz off len => .sl (σ i) sz off len
  | .pe i sz e o => .pe (σ i) sz e o
  | .mp i => .mp (σ i)
  | .agg _ => .any
  | .tup _ => .any
  | .fn _ _ => .any
  | s => s
def mvSV : Nat → (Nat → Nat) → SV → SV
  | 0, σ, s => mvFlat σ s
  | d + 1, σ, s => match s with
    | .agg cs => .agg (cs.map (mvSV d σ))
    | .tup cs => .tup (cs.map (mvSV d σ))
    | .fn k cs => .fn k (cs.map (mvSV d σ))
    | s => mvFlat σ s
def mvBlk (σ : Nat → Nat) (x : Blk) : Blk :=
  match x with
  | .cells t cs => .cells t (cs.map (mvSV 2 σ))
  | .lp l ps x c tms s pe => .lp l ps x c (tms.map (mvSV 2 σ)) s pe
  | x => x
def mvH (σ : Nat → Nat) : Hl → Hl
  | [] => []
  | (i, x) :: r => (σ i, mvBlk σ x) :: mvH σ r
def srcOk (nx : Nat) : List (Nat × Nat) → Bool
  | [] => true
  | (i, _) :: r => Nat.blt i nx && !(isSome (lookR r i)) && srcOk nx r
def srcs : List (Nat × Nat) → List Nat
  | [] => []
  | (i, _) :: r => i :: srcs r
section
variable {cx : Cx} {G : Gl} {w w' : World} {I I' : Nat → Prop} {β β' : Vln} {H : Hl} {nx : Nat} {ρ : List (Nat × Nat)}
def subCx (w : World) (I : Nat → Prop) (β : Vln) (H : Hl) (ρ : List (Nat × Nat)) : Cx :=
  { w0 := w, B := fun b => ∃ i j x C, lookR ρ i = some j ∧ look H i = some x ∧ β i = some (b, C), I0 := I, β0 := renβ 0 ρ β }
def backβ (nx : Nat) (ρ : List (Nat × Nat)) (β β' : Vln) : Vln := fun j =>
  match lookR ρ j with
  | some i => β' i
  | none => if j < nx then β j else β' (j - nx)
theorem lookR_src {i j : Nat} (hs : srcOk nx ρ = true) (h : lookR ρ i = some j) : i < nx := by
  induction ρ with
  | nil => cases h
  | cons p r ih =>
    obtain ⟨a, b⟩ := p
    simp only [srcOk, Bool.and_eq_true] at hs
    unfold lookR at h
    split at h
    · rename_i e
      have e := Nat.eq_of_beq_eq_true e
      subst e
      simpa using hs.1.1
    · exact ih hs.2 h
theorem lookR_of_backR {i j : Nat} (hs : srcOk nx ρ = true) (h : backR ρ j = some i) : lookR ρ i = some j := by
  induction ρ with
  | nil => cases h
  | cons p r ih =>
    obtain ⟨a, b⟩ := p
    simp only [srcOk, Bool.and_eq_true] at hs
    unfold backR at h
    split at h
    · rename_i e
      have e := Nat.eq_of_beq_eq_true e
      subst e
      cases h
      simp [lookR]
    · have := ih hs.2 h
      unfold lookR
      split
      · rename_i e
        have e := Nat.eq_of_beq_eq_true e
        subst e
        have h2 := hs.1.2
        rw [this] at h2
        simp [isSome] at h2
      · exact this
theorem backβ_out (hs : srcOk nx ρ = true) (i : Nat) : backβ nx ρ β β' (outId nx ρ i) = β' i := by
  unfold backβ outId
  split
  · rename_i j hj
    split at hj
    · rename_i k hk
      rw [lookR_of_backR hs hk] at hj
      cases hj; rfl
    · have := lookR_src hs hj; omega
  · rename_i hj
    split at hj
    · rename_i k hk
      rw [lookR_of_backR hs hk] at hj
      cases hj
    · rename_i hk
      rw [if_neg (by omega)]
      congr 1
      omega
theorem mvFlat_ok {σ : Nat → Nat} {β3 : Vln} (h3 : ∀ i, β3 (σ i) = β' i) {s : SV} {v : Value} (h : Rep w I β' s v) : Rep w I β3 (mvFlat σ s) v := by
  cases h with
  | agg hl h => exact .any _
  | tup hl h => exact .any _
  | fn hl h => exact .any _
  | any v => exact .any v
  | lit k n => exact .lit k n
  | int k n => exact .int k n
  | bl b => exact .bl b
  | bs b => exact .bs b
  | con v => exact .con v
  | nilp => exact .nilp
  | nils A => exact .nils A
  | str s => exact .str s
  | ptr hb => exact .ptr ((h3 _).trans hb)
  | sl hb hc hl ho => exact .sl ((h3 _).trans hb) hc hl ho
  | sl0 hl A => exact .sl0 hl A
  | pe hb => exact .pe ((h3 _).trans hb)
  | mp hb => exact .mp ((h3 _).trans hb)
  | ro0 sz n hn f A c => exact .ro0 sz n hn f A c
  | ro hb hc hlen u h1 hcell hrep => exact .ro hb hc hlen u h1 hcell hrep
  | rp hb u hcell hrep => exact .rp hb u hcell hrep
  | ra hb hlen u hcell hrep => exact .ra hb hlen u hcell hrep
theorem mvSV_any (d : Nat) (σ : Nat → Nat) : mvSV d σ .any = .any := by cases d <;> rfl
theorem mvSV_ok {σ : Nat → Nat} {β3 : Vln} (h3 : ∀ i, β3 (σ i) = β' i) (d : Nat) : ∀ {s : SV} {v : Value}, Rep w I β' s v → Rep w I β3 (mvSV d σ s) v := by
  induction d with
  | zero => intro s v h; exact mvFlat_ok h3 h
  | succ d ih =>
    intro s v h
    unfold mvSV
    split
    · cases h with
      | agg hl h => exact .agg (by simpa using hl) (fun j hj => by rw [map_getD' _ (mvSV_any _ _)]; exact ih (h j (by simpa using hj)))
    · cases h with
      | tup hl h => exact .tup (by simpa using hl) (fun j hj => by rw [map_getD' _ (mvSV_any _ _)]; exact ih (h j (by simpa using hj)))
    · cases h with
      | fn hl h => exact .fn (by simpa using hl) (fun j hj => by rw [map_getD' _ (mvSV_any _ _)]; exact ih (h j (by simpa using hj)))
    · exact mvFlat_ok h3 h
theorem look_mvH {σ : Nat → Nat} {R : Hl} (H : Hl) {j : Nat} {y : Blk} (h : look (happ (mvH σ H) R) j = some y) : (∃ i x, look H i = some x ∧ σ i = j ∧ y = mvBlk σ x) ∨ look R j = some y := by
  induction H with
  | nil => exact .inr h
  | cons p r ih =>
    obtain ⟨k, x⟩ := p
    simp only [mvH, happ, look] at h
    split at h
    · rename_i e
      have e := Nat.eq_of_beq_eq_true e
      cases h
      exact .inl ⟨k, x, by simp [look], e, rfl⟩
    · rename_i e
      rcases ih h with ⟨i, x', h1, h2, h3⟩ | h1
      · refine .inl ⟨i, x', ?_, h2, h3⟩
        simp only [look]
        rw [show Nat.beq k i = false from by cases hb : Nat.beq k i with | false => rfl | true => exact absurd h2 (by have := Nat.eq_of_beq_eq_true hb; subst this; intro e'; subst e'; simp at e)]
        exact h1
      · exact .inr h1
theorem look_srcs (H : Hl) : ∀ (ρ : List (Nat × Nat)) {j : Nat} {y : Blk}, look (hgone H (srcs ρ)) j = some y → look H j = some y ∧ lookR ρ j = none := by
  intro ρ
  induction ρ generalizing H with
  | nil => intro j y h; exact ⟨h, rfl⟩
  | cons p r ih =>
    obtain ⟨a, b⟩ := p
    intro j y h
    obtain ⟨h1, h2⟩ := ih _ h
    rw [look_hdel] at h1
    unfold HF.upd at h1
    split at h1
    · cases h1
    · rename_i e
      refine ⟨h1, ?_⟩
      unfold lookR
      split
      · rename_i e'
        exact absurd (Nat.eq_of_beq_eq_true e').symm e
      · exact h2
theorem renId_zero {i j : Nat} (h : renId 0 ρ i = some j) : lookR ρ i = some j := by
  unfold renId at h
  split at h
  · rename_i k hk; cases h; exact hk
  · split at h
    · rename_i hc; simp only [Bool.and_eq_true] at hc; exact absurd hc.1 (by cases i <;> simp [Nat.blt])
    · cases h
theorem Hp.enter {k : Nat} {H0 : Hl} (h : Hp cx I β (look H) nx w) (hok : renOk 0 ρ = true) (hk : renNx 0 ρ ≤ k) (hl : Hle (renH 0 ρ H) H0) : Hp (subCx w I β H ρ) I (renβ 0 ρ β) (look H0) k w := by
  have h0 : Hp (subCx w I β H ρ) I (renβ 0 ρ β) (look (renH 0 ρ H)) (renNx 0 ρ) w := by
    refine { os := rfl, tape := rfl, output := rfl, size := Nat.le_refl _, frame := fun _ _ _ => rfl, ibase := fun _ h => h, iext := fun b hb => .inl hb, ilt := h.ilt, βbase := fun _ _ h => h, blt := ?_, fresh := ?_, blk := ?_, inj := ?_ }
    · intro i b C hb
      unfold renβ at hb
      split at hb
      · exact h.blt _ _ _ hb
      · split at hb
        · exact h.blt _ _ _ hb
        · cases hb
    · intro i hi
      unfold renβ
      split
      · rename_i j hj
        have := backR_nx (N := 0) hj; omega
      · rw [if_neg (by omega)]
    · intro j y hy
      obtain ⟨i, x, h1, h2, rfl⟩ := renH_look H hy
      rcases h.blk i x h2 with ⟨b, C, q1, q2, q3, q4⟩ | ⟨q1, q2, t, sz, n, f, rfl, hz⟩
      · refine .inl ⟨b, C, (renβ_of hok h1).trans q1, .inl ⟨i, j, x, C, renId_zero h1, h2, q1⟩, q3, ?_⟩
        cases x with
        | cells t cs =>
          obtain ⟨vs, fz, k1, k2, k3, k4⟩ := q4
          exact ⟨vs, fz, k1, k2, by simpa using k3, fun j hj => by rw [map_getD' _ rfl]; exact renSV_ok hok (k4 j (by simpa using hj))⟩
        | row t sz n f => exact q4
        | rowc t sz n bb cp f => exact q4
        | obj o => exact q4
        | wm sz L => exact q4
        | num mb o => exact q4
        | lp l ps x c tms s pe =>
          obtain ⟨k0, tv, fn, D, k1, k2, k3⟩ := q4
          exact ⟨k0, tv, fn, D, k1, by simpa using k2, fun j hj => by rw [map_getD' _ rfl]; exact renSV_ok hok (k3 j (by simpa using hj))⟩
      · exact .inr ⟨(renβ_of hok h1).trans q1, backR_nx (backR_of_lookR hok (renId_zero h1)), _, _, _, _, rfl, hz⟩
    · intro j k b C D y z hy hz hj hk
      obtain ⟨i, x, h1, h2, rfl⟩ := renH_look H hy
      obtain ⟨i', x', h1', h2', rfl⟩ := renH_look H hz
      rw [renβ_of hok h1] at hj
      rw [renβ_of hok h1'] at hk
      have e := h.inj i i' b C D x x' h2 h2' hj hk
      subst e
      rw [h1] at h1'
      cases h1'
      rfl
  exact h0.le hl hk
theorem backβ_ext (hok : renOk 0 ρ = true) (h : Hp cx I β (look H) nx w) (hβ : ∀ i x, renβ 0 ρ β i = some x → β' i = some x) : ∀ i x, β i = some x → backβ nx ρ β β' i = some x := by
  intro i x hi
  unfold backβ
  split
  · rename_i j hj
    exact hβ j x ((renβ_of hok (by unfold renId; rw [hj])).trans hi)
  · have : i < nx := by
      rcases Nat.lt_or_ge i nx with hlt | hge
      · exact hlt
      · rw [h.fresh i hge] at hi; cases hi
    rw [if_pos this]
    exact hi
theorem Hp.leave {n' : Nat} {H' : Hl} (h : Hp cx I β (look H) nx w) (hok : renOk 0 ρ = true) (hs : srcOk nx ρ = true) (h' : Hp (subCx w I β H ρ) I' β' (look H') n' w') :
    Hp cx I' (backβ nx ρ β β') (look (happ (mvH (outId nx ρ) H') (hgone H (srcs ρ)))) (nx + n') w' ∧ (∀ b, I b → I' b) ∧ (∀ b, I b → w'.heap[b]? = w.heap[b]?) ∧ (∀ i x, β i = some x → backβ nx ρ β β' i = some x) := by
  have hext := backβ_ext hok h h'.βbase
  have hB : ∀ b, (subCx w I β H ρ).B b → (cx.B b ∨ cx.w0.heap.size ≤ b) ∧ ¬ I b ∧ b < w.heap.size := by
    rintro b ⟨i, j, x, C, h1, h2, h3⟩
    rcases h.blk i x h2 with ⟨b2, C2, q1, q2, q3, q4⟩ | ⟨q1, _⟩
    · rw [h3] at q1; cases q1
      exact ⟨q2, q3, h.blt _ _ _ h3⟩
    · rw [h3] at q1; cases q1
  have hI : ∀ b, I b → I' b := h'.ibase
  have hIw : ∀ b, I b → w'.heap[b]? = w.heap[b]? := fun b hb => h'.frame b (h.ilt b hb) (fun hb' => (hB b hb').2.1 hb)
  have hsz : w.heap.size ≤ w'.heap.size := h'.size
  refine ⟨?_, hI, hIw, hext⟩
  have hrest : ∀ j y, look (hgone H (srcs ρ)) j = some y → (∃ b C, β j = some (b, C) ∧ backβ nx ρ β β' j = some (b, C) ∧ (cx.B b ∨ cx.w0.heap.size ≤ b) ∧ ¬ I' b ∧ b < w.heap.size ∧ ¬ (subCx w I β H ρ).B b ∧ BlkOk w' I' (backβ nx ρ β β') b C y) ∨ (β j = none ∧ Ghost (backβ nx ρ β β') (nx + n') j y) := by
    intro j y hy
    obtain ⟨h1, h2⟩ := look_srcs H ρ hy
    rcases h.blk j y h1 with ⟨b, C, q1, q2, q3, q4⟩ | ⟨q1, q2, q3⟩
    · have hlt := h.blt _ _ _ q1
      have hnB : ¬ (subCx w I β H ρ).B b := by
        rintro ⟨i, k, x, D, e1, e2, e3⟩
        have e := h.inj i j b D C x y e2 h1 e3 q1
        subst e
        rw [h2] at e1
        cases e1
      have hnI : ¬ I' b := by
        intro hb
        rcases h'.iext b hb with hb | hb | hb
        · exact q3 hb
        · exact hnB hb
        · exact absurd (show w.heap.size ≤ b from hb) (by omega)
      exact .inl ⟨b, C, q1, hext _ _ q1, q2, hnI, hlt, hnB, q4.mono hI hIw (h'.frame b hlt hnB) hext⟩
    · refine .inr ⟨q1, ?_, by omega, q3⟩
      unfold backβ
      rw [h2]
      simp only [if_pos q2, q1]
  refine { os := h'.os.trans h.os, tape := h'.tape.trans h.tape, output := h'.output.trans h.output, size := Nat.le_trans h.size hsz, frame := ?_, ibase := fun b hb => hI b (h.ibase b hb), iext := ?_, ilt := h'.ilt, βbase := fun i x hx => hext i x (h.βbase i x hx), blt := ?_, fresh := ?_, blk := ?_, inj := ?_ }
  · intro b hb hnB
    have hlt : b < w.heap.size := Nat.lt_of_lt_of_le hb h.size
    rw [h'.frame b hlt (fun hb' => by rcases (hB b hb').1 with h1 | h1
                                      · exact hnB h1
                                      · omega)]
    exact h.frame b hb hnB
  · intro b hb
    rcases h'.iext b hb with hb | hb | hb
    · exact h.iext b hb
    · exact .inr (hB b hb).1
    · exact .inr (.inr (Nat.le_trans h.size hb))
  · intro i b C hb
    unfold backβ at hb
    split at hb
    · exact h'.blt _ _ _ hb
    · split at hb
      · exact Nat.lt_of_lt_of_le (h.blt _ _ _ hb) hsz
      · exact h'.blt _ _ _ hb
  · intro i hi
    unfold backβ
    split
    · rename_i j hj
      have := lookR_src hs hj
      omega
    · rw [if_neg (by omega)]
      exact h'.fresh _ (by omega)
  · intro j y hy
    rcases look_mvH H' hy with ⟨i, x, h1, rfl, rfl⟩ | h1
    · rcases h'.blk i x h1 with ⟨b, C, q1, q2, q3, q4⟩ | ⟨q1, q2, q3⟩
      · refine .inl ⟨b, C, (backβ_out hs i).trans q1, ?_, q3, ?_⟩
        · rcases q2 with q2 | q2
          · exact (hB b q2).1
          · exact .inr (Nat.le_trans h.size q2)
        · cases x with
          | cells t cs =>
            obtain ⟨vs, fz, k1, k2, k3, k4⟩ := q4
            exact ⟨vs, fz, k1, k2, by simpa using k3, fun j hj => by rw [map_getD' _ (mvSV_any _ _)]; exact mvSV_ok (backβ_out hs) 2 (k4 j (by simpa using hj))⟩
          | row t sz n f => exact q4
          | rowc t sz n bb cp f => exact q4
          | obj o => exact q4
          | wm sz L => exact q4
          | num mb o => exact q4
          | lp l ps x c tms s pe =>
            obtain ⟨k0, tv, fn, D, k1, k2, k3⟩ := q4
            exact ⟨k0, tv, fn, D, k1, by simpa using k2, fun j hj => by rw [map_getD' _ (mvSV_any _ _)]; exact mvSV_ok (backβ_out hs) 2 (k3 j (by simpa using hj))⟩
      · refine .inr ⟨(backβ_out hs i).trans q1, ?_, ?_⟩
        · unfold outId
          split
          · rename_i k hk
            have := lookR_src hs (lookR_of_backR hs hk)
            omega
          · omega
        · obtain ⟨t, sz, n, f, rfl, hz⟩ := q3
          exact ⟨_, _, _, _, rfl, hz⟩
    · rcases hrest j y h1 with ⟨b, C, q1, q2, q3, q4, q5, q6, q7⟩ | ⟨_, hg⟩
      · exact .inl ⟨b, C, q2, q3, q4, q7⟩
      · exact .inr hg
  · intro j k b C D y z hy hz hj hk
    have cross : ∀ (i j : Nat) (x y : Blk) (C D : Nat), look H' i = some x → look (hgone H (srcs ρ)) j = some y → β' i = some (b, C) → backβ nx ρ β β' j = some (b, D) → False := by
      intro i j x y C D hx hy hi hj
      rcases hrest j y hy with ⟨b2, C2, q1, q2, q3, q4, q5, q6, q7⟩ | ⟨_, hg, _⟩
      · rw [hj] at q2; cases q2
        rcases h'.blk i x hx with ⟨b2, C2, p1, p2, p3, p4⟩ | ⟨p1, _⟩
        · rw [hi] at p1; cases p1
          rcases p2 with p2 | p2
          · exact q6 p2
          · exact absurd (show w.heap.size ≤ _ from p2) (by omega)
        · rw [hi] at p1; cases p1
      · rw [hj] at hg; cases hg
    rcases look_mvH H' hy with ⟨i, x, h1, rfl, rfl⟩ | h1 <;> rcases look_mvH H' hz with ⟨i', x', h1', rfl, rfl⟩ | h1'
    · rw [backβ_out hs] at hj hk
      rw [h'.inj i i' b C D x x' h1 h1' hj hk]
    · rw [backβ_out hs] at hj
      exact (cross _ _ _ _ _ _ h1 h1' hj hk).elim
    · rw [backβ_out hs] at hk
      exact (cross _ _ _ _ _ _ h1' h1 hk hj).elim
    · rcases hrest j y h1 with ⟨b2, C2, q1, q2, _⟩ | ⟨_, hg, _⟩
      · rw [hj] at q2; cases q2
        rcases hrest k z h1' with ⟨b3, C3, p1, p2, _⟩ | ⟨_, hg, _⟩
        · rw [hk] at p2; cases p2
          exact h.inj j k _ _ _ y z (look_srcs H ρ h1).1 (look_srcs H ρ h1').1 q1 p1
        · rw [hk] at hg; cases hg
      · rw [hj] at hg; cases hg
end
theorem CS.use {P : Program} {G : Gl} {f : Nat} {args args0 : List SV} {st : St} {K : SV → St → Prop} {H0 : Hl} {k : Nat} {K0 : SV → Hl → Nat → Prop} (h : FnTr P G f args0 H0 k K0) (ρ : List (Nat × Nat)) (hok : renOk 0 ρ = true)
    (hs : srcOk st.nx ρ = true) (hk : Nat.ble (renNx 0 ρ) k = true) (ha : SVles (args.map (renSV 0 ρ)) args0) (hH : Hle (renH 0 ρ st.heap) H0)
    (hK : ∀ r H' n', K0 r H' n' → K (mvSV 3 (outId st.nx ρ) r) ⟨st.tmps, happ (mvH (outId st.nx ρ) H') (hgone st.heap (srcs ρ)), st.nx + n', st.lo⟩) : CS P G f args st K where
  ent := h.ent
  out := by
    intro cx I β a w cargs hst hl hr
    have hk' := Nat.le_of_ble_eq_true hk
    have hin := hst.hp.enter hok hk' hH
    have hlen : args0.length = args.length := by have := ha.length; simpa using this
    refine (h.out (subCx w I β st.heap ρ) I (renβ 0 ρ β) w cargs hin hst.gl (fun i hi => ?_) (by rw [hl, hlen]) (fun j => ?_)).mono ?_
    · show renβ 0 ρ β i = none
      unfold renβ
      split
      · rename_i j hj
        have := backR_nx (N := 0) hj; omega
      · rw [if_neg (by omega)]
    · have h1 := renSV_ok (N := 0) hok (hr j)
      have h2 := ha.getD j
      rw [map_getD' _ rfl] at h2
      exact h2 _ _ _ _ h1
    · rintro e w' ⟨v, r, H', n', I', β', rfl, hK0, hp', hr'⟩
      obtain ⟨q1, q2, q3, q4⟩ := hst.hp.leave hok hs hp'
      refine ⟨v, _, _, I', backβ st.nx ρ β β', rfl, hK _ _ _ hK0, ?_, mvSV_ok (backβ_out hs) 3 hr'⟩
      exact { hp := q1, tl := hst.tl, tm := fun t => (hst.tm t).mono q2 q3 q4, df := hst.df.mono q2 q3, gl := fun p hp => (hst.gl p hp).mono q2 q3 (fun _ _ h => h), lo := hst.lo, lon := Nat.le_trans hst.lon (Nat.le_add_right _ _) }
end Go.Eng
/-
  The symbolic executor: what says less, reckoned; loops, calls and ends in that form.
-/
namespace Go.Eng
def leL (le : SV → SV → Prop) : List SV → List SV → Prop
  | [], [] => True
  | x :: xs, y :: ys => le x y ∧ leL le xs ys
  | _, _ => False
def leSV (A : Ar) : Nat → SV → SV → Prop
  | 0, _, y => match y with
    | .any => True
    | _ => False
  | d + 1, x, y => match y with
    | .any => True
    | .lit k n => match x with
      | .lit k' m => match kEq k' k with
        | true => m = n
        | false => False
      | .int k' m => match kEq k' k with
        | true => m = n
        | false => False
      | _ => False
    | .int k n => match x with
      | .lit k' m => match kEq k' k with
        | true => m = n
        | false => False
      | .int k' m => match kEq k' k with
        | true => m = n
        | false => False
      | _ => False
    | .bl b => match x with
      | .bl c => c = b
      | .bs c => c = b
      | _ => False
    | .bs b => match x with
      | .bl c => c = b
      | .bs c => c = b
      | _ => False
    | .con v => match x with
      | .con u => u = v
      | _ => False
    | .nilp => match x with
      | .nilp => True
      | _ => False
    | .nils => match x with
      | .nils => True
      | _ => False
    | .str s => match x with
      | .str t => t = s
      | _ => False
    | .ptr i o => match x with
      | .ptr j p => match Nat.beq j i, Nat.beq p o with
        | true, true => True
        | _, _ => False
      | _ => False
    | .sl i sz off len => match x with
      | .sl j sz' off' len' => match Nat.beq j i, Nat.beq sz' sz with
        | true, true => off'.val = off.val ∧ len'.val = len.val
        | _, _ => False
      | .nils => len.val = 0
      | _ => False
    | .pe i sz e o => match x with
      | .pe j sz' e' o' => match Nat.beq j i, Nat.beq sz' sz, Nat.beq o' o with
        | true, true, true => e'.val = e.val
        | _, _, _ => False
      | _ => False
    | .mp i => match x with
      | .mp j => match Nat.beq j i with
        | true => True
        | false => False
      | _ => False
    | .ro sz n f => match x with
      | .nils => n.val = 0
      | .ro sz' n' f' => match Nat.beq sz' sz with
        | true => n'.val = n.val ∧ ∀ e : NV, ltNV A e n' → leL (leSV A d) (f' e) (f e)
        | false => False
      | _ => False
    | .rp cs => match x with
      | .rp cs' => leL (leSV A d) cs' cs
      | _ => False
    | .ra sz n f => match x with
      | .ra sz' n' f' => match Nat.beq sz' sz, Nat.beq n' n with
        | true, true => ∀ e : NV, ltNV A e (.l n) → leL (leSV A d) (f' e) (f e)
        | _, _ => False
      | _ => False
    | .agg cs => match x with
      | .agg cs' => leL (leSV A d) cs' cs
      | _ => False
    | .tup cs => match x with
      | .tup cs' => leL (leSV A d) cs' cs
      | _ => False
    | .fn k cs => match x with
      | .fn k' cs' => match Nat.beq k' k with
        | true => leL (leSV A d) cs' cs
        | false => False
      | _ => False
theorem leL_ok {le : SV → SV → Prop} (h : ∀ x y, le x y → SVle x y) : ∀ {xs ys : List SV}, leL le xs ys → SVles xs ys := by
  intro xs
  induction xs with
  | nil => intro ys hl; cases ys with | nil => exact .nil | cons y ys => exact hl.elim
  | cons x xs ih => intro ys hl; cases ys with | nil => exact hl.elim | cons y ys => exact .cons (h _ _ hl.1) (ih hl.2)
theorem ltNV_real {e n : NV} : ltNV Ar.real e n ↔ e.val < n.val := by
  show e.val + 1 ≤ n.val ↔ _
  omega
theorem SVle.rp {xs ys : List SV} (h : SVles xs ys) : SVle (.rp xs) (.rp ys) := by
  intro w I β v hv
  cases hv with
  | rp hI u hcell hrep => exact .rp hI u (fun j hj => hcell j (by rw [← h.length]; exact hj)) (fun j hj => h.getD j _ _ _ _ (hrep j (by rw [← h.length]; exact hj)))
theorem SVle.ra {sz n : Nat} {f g : NV → List SV} (hf : Fle sz n f g) : SVle (.ra sz n f) (.ra sz n g) := by
  intro w I β v hv
  cases hv with
  | ra hI hlen u hcell hrep => exact .ra hI (fun e he => (hf e he (hlen e he)).1) u hcell (fun e j he hj => (hf e he (hlen e he)).2 j hj _ _ _ _ (hrep e j he hj))
theorem SVle.pe {i sz o : Nat} {e e' : NV} (h : e.val = e'.val) : SVle (.pe i sz e o) (.pe i sz e' o) := by
  intro w I β v hv
  cases hv with
  | pe hb => rw [h]; exact .pe hb
theorem Fle.of_leL {le : SV → SV → Prop} (h : ∀ x y, le x y → SVle x y) {sz n : Nat} {f g : NV → List SV} (hl : ∀ e : NV, e.val < n → leL le (f e) (g e)) : Fle sz n f g := by
  intro e he hlen
  have := leL_ok h (hl e he)
  exact ⟨by rw [this.length, hlen], fun j _ => this.getD j⟩
theorem leSV_ok (d : Nat) : ∀ {x y : SV}, leSV Ar.real d x y → SVle x y := by
  induction d with
  | zero =>
    intro x y h
    unfold leSV at h
    split at h
    · exact SVle.any _
    · exact h.elim
  | succ d ih =>
    intro x y h
    cases y with
    | any => exact SVle.any _
    | lit k n =>
      cases x <;> simp only [leSV] at h <;> first | exact h.elim | skip
      · split at h
        · rename_i hk; rw [kEq_spec hk, h]; exact SVle.refl _
        · exact h.elim
      · split at h
        · rename_i hk; rw [kEq_spec hk, h]; exact SVle.til rfl
        · exact h.elim
    | int k n =>
      cases x <;> simp only [leSV] at h <;> first | exact h.elim | skip
      · split at h
        · rename_i hk; rw [kEq_spec hk]; exact SVle.lit h
        · exact h.elim
      · split at h
        · rename_i hk; rw [kEq_spec hk]; exact SVle.int h
        · exact h.elim
    | bl b => cases x <;> simp only [leSV] at h <;> first | exact h.elim | (rw [h]; exact SVle.refl _) | (rw [h]; exact SVle.sb rfl)
    | bs b => cases x <;> simp only [leSV] at h <;> first | exact h.elim | exact SVle.bl h | exact SVle.bs h
    | con v => cases x <;> simp only [leSV] at h <;> first | exact h.elim | (rw [h]; exact SVle.refl _)
    | nilp => cases x <;> simp only [leSV] at h <;> first | exact h.elim | exact SVle.refl _
    | nils => cases x <;> simp only [leSV] at h <;> first | exact h.elim | exact SVle.refl _
    | str s => cases x <;> simp only [leSV] at h <;> first | exact h.elim | exact SVle.str h
    | ptr i o =>
      cases x <;> simp only [leSV] at h <;> first | exact h.elim | skip
      split at h
      · rename_i h1 h2; rw [Nat.eq_of_beq_eq_true h1, Nat.eq_of_beq_eq_true h2]; exact SVle.refl _
      · exact h.elim
    | sl i sz off len =>
      cases x <;> simp only [leSV] at h <;> first | exact h.elim | skip
      · intro w I β v hv; cases hv; exact .sl0 h _
      split at h
      · rename_i h1 h2; rw [Nat.eq_of_beq_eq_true h1, Nat.eq_of_beq_eq_true h2]; exact SVle.sl h.1 h.2
      · exact h.elim
    | pe i sz e o =>
      cases x <;> simp only [leSV] at h <;> first | exact h.elim | skip
      split at h
      · rename_i h1 h2 h3; rw [Nat.eq_of_beq_eq_true h1, Nat.eq_of_beq_eq_true h2, Nat.eq_of_beq_eq_true h3]; exact SVle.pe h
      · exact h.elim
    | mp i =>
      cases x <;> simp only [leSV] at h <;> first | exact h.elim | skip
      split at h
      · rename_i h1; rw [Nat.eq_of_beq_eq_true h1]; exact SVle.refl _
      · exact h.elim
    | ro sz n f =>
      cases x <;> simp only [leSV] at h <;> first | exact h.elim | skip
      · exact SVle.nils h
      · split at h
        · rename_i h1; rw [Nat.eq_of_beq_eq_true h1]; exact SVle.ro h.1 (Fle.of_leL (fun _ _ => ih) (fun e he => h.2 e (ltNV_real.2 he)))
        · exact h.elim
    | rp cs => cases x <;> simp only [leSV] at h <;> first | exact h.elim | exact SVle.rp (leL_ok (fun _ _ => ih) h)
    | ra sz n f =>
      cases x <;> simp only [leSV] at h <;> first | exact h.elim | skip
      split at h
      · rename_i h1 h2; rw [Nat.eq_of_beq_eq_true h1, Nat.eq_of_beq_eq_true h2]; exact SVle.ra (Fle.of_leL (fun _ _ => ih) (fun e he => h e (ltNV_real.2 he)))
      · exact h.elim
    | agg cs => cases x <;> simp only [leSV] at h <;> first | exact h.elim | exact SVle.agg (leL_ok (fun _ _ => ih) h)
    | tup cs => cases x <;> simp only [leSV] at h <;> first | exact h.elim | exact SVle.tup (leL_ok (fun _ _ => ih) h)
    | fn k cs =>
      cases x <;> simp only [leSV] at h <;> first | exact h.elim | skip
      split at h
      · rename_i h1; rw [Nat.eq_of_beq_eq_true h1]; exact SVle.fn (leL_ok (fun _ _ => ih) h)
      · exact h.elim
def leBlk (A : Ar) (x y : Blk) : Prop :=
  match y with
  | .cells t cs => match x with
    | .cells t' cs' => match Nat.beq t' t with
      | true => leL (leSV A 4) cs' cs
      | false => False
    | _ => False
  | .row t sz n f => match x with
    | .row t' sz' n' f' => match Nat.beq t' t, Nat.beq sz' sz with
      | true, true => n'.val = n.val ∧ ∀ e : NV, ltNV A e n' → leL (leSV A 4) (f' e) (f e)
      | _, _ => False
    | _ => False
  | .rowc t sz n bb cp f => match x with
    | .rowc t' sz' n' bb' cp' f' => match Nat.beq t' t, Nat.beq sz' sz with
      | true, true => (bb' = bb ∧ cp' = cp) ∧ n'.val = n.val ∧ ∀ e : NV, ltNV A e n' → leL (leSV A 4) (f' e) (f e)
      | _, _ => False
    | _ => False
  | .obj o => match x with
    | .obj o' => o' = o
    | _ => False
  | .wm sz L => match x with
    | .wm sz' L' => match Nat.beq sz' sz with
      | true => ∀ k, L' k = L k
      | false => False
    | .num _ o' => match o' with
      | .map es c => MapIs sz es c L
      | _ => False
    | _ => False
  | .num b o => match x with
    | .num b' o' => b' = b ∧ o' = o
    | _ => False
  | .lp l ps u c tms s pe => match x with
    | .lp l' ps' u' c' tms' s' pe' => (l' = l ∧ ps' = ps ∧ u' = u ∧ c' = c ∧ s' = s ∧ pe' = pe) ∧ leL (leSV A 4) tms' tms
    | _ => False
theorem leBlk_ok {x y : Blk} (h : leBlk Ar.real x y) : Blkle x y ∧ BlkG x y := by
  cases y with
  | cells t cs =>
    cases x <;> simp only [leBlk] at h <;> first | exact h.elim | skip
    split at h
    · rename_i h1; rw [Nat.eq_of_beq_eq_true h1]; exact Blkle.cells (leL_ok (fun _ _ => leSV_ok 4) h)
    · exact h.elim
  | row t sz n f =>
    cases x <;> simp only [leBlk] at h <;> first | exact h.elim | skip
    split at h
    · rename_i h1 h2; rw [Nat.eq_of_beq_eq_true h1, Nat.eq_of_beq_eq_true h2]; exact Blkle.row h.1 (Fle.of_leL (fun _ _ => leSV_ok 4) (fun e he => h.2 e (ltNV_real.2 he)))
    · exact h.elim
  | rowc t sz n bb cp f =>
    cases x <;> simp only [leBlk] at h <;> first | exact h.elim | skip
    split at h
    · rename_i h1 h2
      rw [Nat.eq_of_beq_eq_true h1, Nat.eq_of_beq_eq_true h2]
      refine ⟨fun w I β b C hb => ⟨⟨hb.1.1.trans h.1.1, hb.1.2.trans h.1.2⟩, (Blkle.row (t := t) (sz := sz) h.2.1 (Fle.of_leL (fun _ _ => leSV_ok 4) (fun e he => h.2.2 e (ltNV_real.2 he)))).1 w I β b C hb.2⟩, fun t sz n f e => by cases e⟩
    · exact h.elim
  | obj o =>
    cases x <;> simp only [leBlk] at h <;> first | exact h.elim | skip
    rw [h]; exact Blkle.refl _
  | wm sz L =>
    cases x <;> simp only [leBlk] at h <;> first | exact h.elim | skip
    · split at h
      · rename_i h1
        rw [Nat.eq_of_beq_eq_true h1, show _ = L from funext h]; exact Blkle.refl _
      · exact h.elim
    · split at h
      · exact ⟨fun w I β b C hb => ⟨_, _, hb.2, h⟩, fun t sz n f e => by cases e⟩
      · exact h.elim
  | num mb o =>
    cases x <;> simp only [leBlk] at h <;> first | exact h.elim | skip
    rw [h.1, h.2]; exact Blkle.refl _
  | lp l ps u c tms s pe =>
    cases x <;> simp only [leBlk] at h <;> first | exact h.elim | skip
    obtain ⟨⟨rfl, rfl, rfl, rfl, rfl, rfl⟩, h⟩ := h
    have h := leL_ok (fun _ _ => leSV_ok 4) h
    refine ⟨fun w I β b C hb => ?_, fun t sz n f e => by cases e⟩
    obtain ⟨k0, tv, fn, D, k1, k2, k3⟩ := hb
    exact ⟨k0, tv, fn, D, k1, by rw [k2, h.length], fun t ht => h.getD t _ _ _ _ (k3 t (by rw [h.length] at ht; exact ht))⟩
def leH (A : Ar) (H : Hl) : Hl → Prop
  | [] => True
  | (i, y) :: r => match look H i with
    | some x => leBlk A x y ∧ leH A H r
    | none => False
theorem leH_ok {H : Hl} : ∀ {H' : Hl}, leH Ar.real H H' → Hle H H' := by
  intro H'
  induction H' with
  | nil => intro _; exact .nil
  | cons p r ih =>
    obtain ⟨i, y⟩ := p
    intro h
    unfold leH at h
    split at h
    · rename_i x hx; exact .cons hx (leBlk_ok h.1) (ih h.2)
    · exact h.elim
def leSt (A : Ar) (st st' : St) : Prop :=
  leL (leSV A 4) st.tmps st'.tmps ∧ leH A st.heap st'.heap ∧ match Nat.ble st.nx st'.nx, Nat.beq st'.lo st.lo with
    | true, true => True
    | _, _ => False
theorem leSt_ok {st st' : St} (h : leSt Ar.real st st') : StP st st' := by
  obtain ⟨h1, h2, h3⟩ := h
  split at h3
  · rename_i k1 k2; exact ⟨leL_ok (fun _ _ => leSV_ok 4) h1, leH_ok h2, Nat.le_of_ble_eq_true k1, Nat.eq_of_beq_eq_true k2⟩
  · exact h3.elim
theorem Round.le {α : Type} {inv : α → St} {p : α → Prop} {m : α → Nat} {lim : Nat} {st : St} {A : Ar} (hA : Ar.real = A) (a : α) (N : Nat) (ρ : List (Nat × Nat)) (hN : Nat.ble st.lo N = true) (hok : renOk st.lo ρ = true)
    (h : leSt A (renSt N ρ st) (inv a)) (hp : p a) (hm : m a < lim) : Round inv p m lim st :=
  Round.to a N ρ hN hok (leSt_ok (hA ▸ h)) hm hp
def dstsOps : List Oper → List Nat
  | [] => []
  | o :: r => match o.dst with
    | some d => d :: dstsOps r
    | none => dstsOps r
def dsts : Code → List Nat
  | .seq a b => dsts a ++ dsts b
  | .region _ ops _ => dstsOps ops.toList
  | .cond _ a b => dsts a ++ dsts b
  | .block _ c => dsts c
  | .loop c => dsts c
  | _ => []
def clr : List SV → List Nat → List SV
  | tm, [] => tm
  | tm, d :: r => clr (tm.set d .any) r
def putAll : List SV → List (Nat × SV) → List SV
  | tm, [] => tm
  | tm, (d, s) :: r => putAll (tm.set d s) r
def invOf (tm : List SV) (lo : Nat) (c : Code) (N : Nat) (l : List (Nat × SV)) (H : Hl) : St := ⟨putAll (clr tm (dsts c)) l, H, N, lo⟩
theorem LS.le {P : Program} {G : Gl} {T : Tab} {α : Type} {c : Code} {st : St} {K : Exit → St → Prop} (hT : T.Ok P) {A : Ar} (hA : Ar.real = A) (N : Nat) (l : α → List (Nat × SV)) (H : α → Hl) (p : α → Prop) (m : α → Nat) (a0 : α) (ρ0 : List (Nat × Nat))
    (hN : Nat.ble st.lo N = true) (hok : renOk st.lo ρ0 = true) (h0 : leSt A (renSt N ρ0 st) (invOf st.tmps st.lo c (renNx N ρ0) (l a0) (H a0))) (hp0 : p a0)
    (body : ∀ R : α → St → Prop, (∀ a st', (∃ a' N' ρ, Nat.ble st'.lo N' = true ∧ renOk st'.lo ρ = true ∧ leSt A (renSt N' ρ st') (invOf st.tmps st.lo c (renNx N ρ0) (l a') (H a')) ∧ p a' ∧ m a' < m a) → R a st') →
      ∀ a, p a → vc P G T A c (invOf st.tmps st.lo c (renNx N ρ0) (l a) (H a)) (seqK (R a) K)) : LS P G c st K := by
  subst hA
  refine LS.inv (fun a => invOf st.tmps st.lo c (renNx N ρ0) (l a) (H a)) p m a0 N ρ0 hT hN hok (leSt_ok h0) hp0 ?_
  refine body (fun a st' => Round (fun a => invOf st.tmps st.lo c (renNx N ρ0) (l a) (H a)) p m (m a) st') ?_
  rintro a st' ⟨a', N', ρ, h1, h2, h3, h4, h5⟩
  exact Round.le rfl a' N' ρ h1 h2 h3 h4 h5
theorem LS.le2 {P : Program} {G : Gl} {T : Tab} {α β : Type} {c : Code} {st : St} {K : Exit → St → Prop} (hT : T.Ok P) {A : Ar} (hA : Ar.real = A) (N : Nat) (l : α → β → List (Nat × SV)) (H : α → β → Hl) (p : α → β → Prop) (m : α → β → Nat) (a0 : α) (b0 : β) (ρ0 : List (Nat × Nat))
    (hN : Nat.ble st.lo N = true) (hok : renOk st.lo ρ0 = true) (h0 : leSt A (renSt N ρ0 st) (invOf st.tmps st.lo c (renNx N ρ0) (l a0 b0) (H a0 b0))) (hp0 : p a0 b0)
    (body : ∀ R : α → β → St → Prop, (∀ a b st', (∃ a' b' N' ρ, Nat.ble st'.lo N' = true ∧ renOk st'.lo ρ = true ∧ leSt A (renSt N' ρ st') (invOf st.tmps st.lo c (renNx N ρ0) (l a' b') (H a' b')) ∧ p a' b' ∧ m a' b' < m a b) → R a b st') →
      ∀ a b, p a b → vc P G T A c (invOf st.tmps st.lo c (renNx N ρ0) (l a b) (H a b)) (seqK (R a b) K)) : LS P G c st K := by
  refine LS.le hT hA N (fun a : α × β => l a.1 a.2) (fun a => H a.1 a.2) (fun a => p a.1 a.2) (fun a => m a.1 a.2) (a0, b0) ρ0 hN hok h0 hp0 ?_
  intro R hR a ha
  refine body (fun a b => R (a, b)) ?_ a.1 a.2 ha
  rintro a b st' ⟨a', b', N', ρ, h1, h2, h3, h4, h5⟩
  exact hR (a, b) st' ⟨(a', b'), N', ρ, h1, h2, h3, h4, h5⟩
theorem LS.le3 {P : Program} {G : Gl} {T : Tab} {α β γ : Type} {c : Code} {st : St} {K : Exit → St → Prop} (hT : T.Ok P) {A : Ar} (hA : Ar.real = A) (N : Nat) (l : α → β → γ → List (Nat × SV)) (H : α → β → γ → Hl) (p : α → β → γ → Prop) (m : α → β → γ → Nat) (a0 : α) (b0 : β) (c0 : γ) (ρ0 : List (Nat × Nat))
    (hN : Nat.ble st.lo N = true) (hok : renOk st.lo ρ0 = true) (h0 : leSt A (renSt N ρ0 st) (invOf st.tmps st.lo c (renNx N ρ0) (l a0 b0 c0) (H a0 b0 c0))) (hp0 : p a0 b0 c0)
    (body : ∀ R : α → β → γ → St → Prop, (∀ a b d st', (∃ a' b' d' N' ρ, Nat.ble st'.lo N' = true ∧ renOk st'.lo ρ = true ∧ leSt A (renSt N' ρ st') (invOf st.tmps st.lo c (renNx N ρ0) (l a' b' d') (H a' b' d')) ∧ p a' b' d' ∧ m a' b' d' < m a b d) → R a b d st') →
      ∀ a b d, p a b d → vc P G T A c (invOf st.tmps st.lo c (renNx N ρ0) (l a b d) (H a b d)) (seqK (R a b d) K)) : LS P G c st K := by
  refine LS.le hT hA N (fun a : α × β × γ => l a.1 a.2.1 a.2.2) (fun a => H a.1 a.2.1 a.2.2) (fun a => p a.1 a.2.1 a.2.2) (fun a => m a.1 a.2.1 a.2.2) (a0, b0, c0) ρ0 hN hok h0 hp0 ?_
  intro R hR a ha
  refine body (fun a b d => R (a, b, d)) ?_ a.1 a.2.1 a.2.2 ha
  rintro a b d st' ⟨a', b', d', N', ρ, h1, h2, h3, h4, h5⟩
  exact hR (a, b, d) st' ⟨(a', b', d'), N', ρ, h1, h2, h3, h4, h5⟩
theorem Fin.le {lo : Nat} {r : SV} {H : Hl} {K : SV → Hl → Nat → Prop} {A : Ar} (hA : Ar.real = A) (N : Nat) (ρ : List (Nat × Nat)) (r' : SV) (H' : Hl) (n' : Nat) (hN : Nat.ble lo N = true) (hok : renOk lo ρ = true) (hn : Nat.ble (renNx N ρ) n' = true)
    (hr : leSV A 5 (renSV N ρ r) r') (hH : leH A (renH N ρ H) H') (hK : K r' H' n') : Fin lo r H K :=
  ⟨N, ρ, [], r', H', n', hok, Nat.le_of_ble_eq_true hN, leSV_ok 5 (hA ▸ hr), leH_ok (hA ▸ hH), Nat.le_of_ble_eq_true hn, trivial, hK⟩
def GhL (lo hi : Nat) : Hl → Prop
  | [] => True
  | (i, x) :: r => (match Nat.ble lo i, Nat.blt i hi with
    | true, true => match x with
      | .row t sz n f => n.val = 0
      | _ => False
    | _, _ => False) ∧ GhL lo hi r
theorem GhL_ok {lo hi : Nat} : ∀ {gs : Hl}, GhL lo hi gs → GhOk lo hi gs := by
  intro gs
  induction gs with
  | nil => intro _; trivial
  | cons p r ih =>
    obtain ⟨i, x⟩ := p
    rintro ⟨h1, h2⟩
    refine ⟨?_, ih h2⟩
    split at h1
    · rename_i k1 k2
      split at h1
      · rename_i t sz n f
        exact ⟨Nat.le_of_ble_eq_true k1, by simpa using k2, t, sz, n, f, rfl, h1⟩
      · exact h1.elim
    · exact h1.elim
theorem Fin.leG {lo : Nat} {r : SV} {H : Hl} {K : SV → Hl → Nat → Prop} {A : Ar} (hA : Ar.real = A) (N : Nat) (ρ : List (Nat × Nat)) (gs : Hl) (r' : SV) (H' : Hl) (n' : Nat) (hN : Nat.ble lo N = true) (hok : renOk lo ρ = true) (hn : Nat.ble (renNx N ρ) n' = true)
    (hg : GhL (renNx N ρ) n' gs) (hr : leSV A 5 (renSV N ρ r) r') (hH : leH A (happ gs (renH N ρ H)) H') (hK : K r' H' n') : Fin lo r H K :=
  ⟨N, ρ, gs, r', H', n', hok, Nat.le_of_ble_eq_true hN, leSV_ok 5 (hA ▸ hr), leH_ok (hA ▸ hH), Nat.le_of_ble_eq_true hn, GhL_ok hg, hK⟩
theorem Sat.ghost {cx : Cx} {G : Gl} {I : Nat → Prop} {β : Vln} {st : St} {a : Act} {w : World} (h : Sat cx G I β st a w) (t sz : Nat) (n : NV) (f : NV → List SV) (hn : n.val = 0) : Sat cx G I β ⟨st.tmps, (st.nx, .row t sz n f) :: st.heap, st.nx + 1, st.lo⟩ a w :=
  { hp := (h.hp.nx_le (Nat.le_succ _)).ghosts (lo := st.nx) (fun i hi => h.hp.fresh i hi) [(st.nx, .row t sz n f)] ⟨⟨Nat.le_refl _, Nat.lt_succ_self _, t, sz, n, f, rfl, hn⟩, trivial⟩
    tl := h.tl, tm := h.tm, df := h.df, gl := h.gl, lo := h.lo, lon := Nat.le_trans h.lon (Nat.le_succ _) }
theorem LS.ghost {P : Program} {G : Gl} {c : Code} {st : St} {K : Exit → St → Prop} (t sz : Nat) (n : NV) (f : NV → List SV) (hn : n.val = 0) (h : LS P G c ⟨st.tmps, (st.nx, .row t sz n f) :: st.heap, st.nx + 1, st.lo⟩ K) : LS P G c st K where
  out := fun cx I β a w hs => h.out cx I β a w (hs.ghost t sz n f hn)
def Gives (r : SV) (H : Hl) (n : Nat) (r' : SV) (H' : Hl) (n' : Nat) : Prop := r' = r ∧ H' = H ∧ n' = n
theorem CS.le {P : Program} {G : Gl} {f : Nat} {args args0 : List SV} {st : St} {K : SV → St → Prop} {H0 H' : Hl} {k n' : Nat} {r : SV} {A : Ar} (hA : Ar.real = A) (h : FnTr P G f args0 H0 k (Gives r H' n')) (ρ : List (Nat × Nat)) (hok : renOk 0 ρ = true)
    (hs : srcOk st.nx ρ = true) (hk : Nat.ble (renNx 0 ρ) k = true) (ha : leL (leSV A 4) (args.map (renSV 0 ρ)) args0) (hH : leH A (renH 0 ρ st.heap) H0)
    (hK : K (mvSV 3 (outId st.nx ρ) r) ⟨st.tmps, happ (mvH (outId st.nx ρ) H') (hgone st.heap (srcs ρ)), st.nx + n', st.lo⟩) : CS P G f args st K :=
  CS.use h ρ hok hs hk (leL_ok (fun _ _ => leSV_ok 4) (hA ▸ ha)) (leH_ok (hA ▸ hH)) (by rintro _ _ _ ⟨rfl, rfl, rfl⟩; exact hK)
end Go.Eng
/-
  The symbolic executor: own blocks lent to a callee; calls, in a window of names.
-/
namespace Go.Eng
def memN : Nat → List Nat → Bool
  | _, [] => false
  | i, j :: r => match Nat.beq i j with
    | true => true
    | false => memN i r
theorem memN_iff {i : Nat} {l : List Nat} : memN i l = true ↔ i ∈ l := by
  induction l with
  | nil => simp [memN]
  | cons j r ih =>
    unfold memN
    split
    · rename_i h; have := Nat.eq_of_beq_eq_true h; subst this; simp
    · rename_i h
      have hne : i ≠ j := fun e => by subst e; simp at h
      rw [ih]; simp [hne]
def borCell (A : Ar) (hp : HF) (bs : List Nat) (s : SV) : Prop × SV :=
  match isData s with
  | true => (True, s)
  | false => match s with
    | .sl i sz off len => match memN i bs with
      | true => match hp i with
        | some (.row t sz' n f) => match Nat.beq sz' sz with
          | true => (A.leN (A.addN off.val len.val) n.val, .ro sz len (fun e => f (addNV A off e)))
          | false => (True, .any)
        | _ => (True, .any)
      | false => (True, .any)
    | _ => (True, .any)
def borCells (A : Ar) (hp : HF) (bs : List Nat) : List SV → Prop × List SV
  | [] => (True, [])
  | s :: r => ((borCell A hp bs s).1 ∧ (borCells A hp bs r).1, (borCell A hp bs s).2 :: (borCells A hp bs r).2)
def borOne (A : Ar) (hp : HF) (bs : List Nat) (s : SV) : Prop × SV :=
  match s with
  | .ptr i o => match memN i bs with
    | true => match hp i with
      | some (.cells t cs) => ((borCells A hp bs (cs.drop o)).1, .rp (borCells A hp bs (cs.drop o)).2)
      | _ => (True, .any)
    | false => (True, s)
  | .pe i sz e o => match memN i bs with
    | true => match hp i with
      | some (.row t sz' n f) => match Nat.beq sz' sz with
        | true => (ltNV A e n, .rp ((f e).drop o))
        | false => (True, .any)
      | _ => (True, .any)
    | false => (True, s)
  | .sl i sz off len => match memN i bs with
    | true => borCell A hp bs s
    | false => (True, s)
  | s => (True, s)
def borOnes (A : Ar) (hp : HF) (bs : List Nat) : List SV → Prop × List SV
  | [] => (True, [])
  | s :: r => ((borOne A hp bs s).1 ∧ (borOnes A hp bs r).1, (borOne A hp bs s).2 :: (borOnes A hp bs r).2)
def borSV (A : Ar) (hp : HF) (bs : List Nat) (s : SV) : Prop × SV :=
  match s with
  | .agg cs => ((borOnes A hp bs cs).1, .agg (borOnes A hp bs cs).2)
  | s => borOne A hp bs s
def borSVs (A : Ar) (hp : HF) (bs : List Nat) : List SV → Prop × List SV
  | [] => (True, [])
  | s :: r => ((borSV A hp bs s).1 ∧ (borSVs A hp bs r).1, (borSV A hp bs s).2 :: (borSVs A hp bs r).2)
def Lent (β : Vln) (hp : HF) (bs : List Nat) (b : Nat) : Prop := ∃ i x C, i ∈ bs ∧ hp i = some x ∧ β i = some (b, C)
section
variable {cx : Cx} {G : Gl} {w w' : World} {I I' : Nat → Prop} {β β' : Vln} {hp : HF} {nx : Nat} {bs : List Nat}
theorem borCell_ok (h : Hp cx I β hp nx w) {s : SV} {v : Value} (hr : Rep w I β s v) (hp' : (borCell Ar.real hp bs s).1) : Rep w (fun b => I b ∨ Lent β hp bs b) Vln.no (borCell Ar.real hp bs s).2 v := by
  unfold borCell at *
  split
  · rename_i hd
    exact (hr.data hd).mono (fun _ h => .inl h) (fun _ _ => rfl) (fun _ _ h => h)
  · rename_i hd
    split
    · rename_i i sz off len
      split
      · rename_i hm
        split
        · rename_i t sz' n f hrow
          split
          · rename_i hsz
            simp only [hd, hm, hrow, hsz] at hp'
            have e : sz' = sz := Nat.eq_of_beq_eq_true hsz
            subst e
            have hle : off.val + len.val ≤ n.val := hp'
            cases hr with
            | sl0 hl A => exact .ro0 _ _ hl _ _ _
            | @sl _ _ _ b C o c _ _ hi hc hl' ho =>
              obtain ⟨vs, fz, h1, h2, h3, h4, h5, h7, h6⟩ := h.own hrow hi
              by_cases hz : len.val = 0
              · rw [hz]; exact .ro0 _ _ hz _ _ _
              · rw [ho (by omega)]
                refine .ro (.inr ⟨i, _, C, memN_iff.1 hm, hrow, hi⟩) hl' (fun e he => h5 _ (by rw [addNV_val]; omega)) (fun i j => vs.getD ((off.val + i) * sz' + j) undef) (fun i j hi hj => ?_) (fun i j hi hj => ?_) (fun e j he hj => ?_)
                · refine h7 _ ?_
                  have : (off.val + i + 1) * sz' ≤ n.val * sz' := Nat.mul_le_mul_right _ (by omega)
                  rw [Nat.add_mul (off.val + i)] at this
                  omega
                · have e1 : off.val * sz' + i * sz' + j = (off.val + i) * sz' + j := by rw [Nat.add_mul]
                  rw [e1]
                  refine cell_of_heap h1 ?_
                  rw [h3]
                  have : (off.val + i + 1) * sz' ≤ C * sz' := Nat.mul_le_mul_right _ (by omega)
                  rw [Nat.add_mul] at this
                  omega
                · have := h6 (addNV Ar.real off e) j (by rw [addNV_val]; omega) hj
                  rw [addNV_val] at this
                  exact this.mono (fun _ h => .inl h) (fun _ _ => rfl) (fun _ _ h => h)
          · exact .any _
        · exact .any _
      · exact .any _
    · exact .any _
theorem borCells_ok (h : Hp cx I β hp nx w) (cs : List SV) : ∀ (u : Nat → Value), (borCells Ar.real hp bs cs).1 → (∀ j, j < cs.length → Rep w I β (cs.getD j .any) (u j)) →
    (borCells Ar.real hp bs cs).2.length = cs.length ∧ ∀ j, j < cs.length → Rep w (fun b => I b ∨ Lent β hp bs b) Vln.no ((borCells Ar.real hp bs cs).2.getD j .any) (u j) := by
  induction cs with
  | nil => intro u _ _; exact ⟨rfl, fun j hj => by simp at hj⟩
  | cons s r ih =>
    intro u hp' hr
    simp only [borCells] at hp' ⊢
    obtain ⟨h1, h2⟩ := ih (fun j => u (j + 1)) hp'.2 (fun j hj => by simpa using hr (j + 1) (by simpa using hj))
    refine ⟨by simp [h1], fun j hj => ?_⟩
    cases j with
    | zero => simpa using borCell_ok h (by simpa using hr 0 (by simp)) hp'.1
    | succ j => simpa using h2 j (by simpa using hj)
theorem borOne_ok (h : Hp cx I β hp nx w) {s : SV} {v : Value} (hr : Rep w I β s v) (hp' : (borOne Ar.real hp bs s).1) : Rep w (fun b => I b ∨ Lent β hp bs b) β (borOne Ar.real hp bs s).2 v := by
  have up : ∀ {s : SV}, Rep w I β s v → Rep w (fun b => I b ∨ Lent β hp bs b) β s v := fun hr => hr.mono (fun _ h => .inl h) (fun _ _ => rfl) (fun _ _ h => h)
  unfold borOne at *
  split
  · rename_i i o
    split
    · rename_i hm
      split
      · rename_i t cs hc
        simp only [hm, hc] at hp'
        cases hr with
        | @ptr _ _ _ b C hi =>
          obtain ⟨vs, fz, h1, h2, h3, h4⟩ := h.own hc hi
          obtain ⟨k1, k2⟩ := borCells_ok h (cs.drop o) (fun j => vs.getD (o + j) undef) hp' (fun j hj => by
            rw [List.length_drop] at hj
            rw [drop_getD]
            exact h4 (o + j) (by omega))
          refine .rp (.inr ⟨i, _, C, memN_iff.1 hm, hc, hi⟩) (fun j => vs.getD (o + j) undef) (fun j hj => ?_) (fun j hj => ?_)
          · rw [k1, List.length_drop] at hj
            exact cell_of_heap h1 (by omega)
          · rw [k1] at hj
            exact k2 j hj
      · exact .any _
    · exact up hr
  · rename_i i sz e o
    split
    · rename_i hm
      split
      · rename_i t sz' n f hrow
        split
        · rename_i hsz
          simp only [hm, hrow, hsz] at hp'
          have e1 : sz' = sz := Nat.eq_of_beq_eq_true hsz
          subst e1
          have hlt := ltNV_real.1 hp'
          cases hr with
          | @pe _ _ _ b C _ _ hi =>
            obtain ⟨vs, fz, h1, h2, h3, h4, h5, h7, h6⟩ := h.own hrow hi
            have hC : (e.val + 1) * sz' ≤ C * sz' := Nat.mul_le_mul_right _ (by omega)
            rw [Nat.add_mul] at hC
            refine .rp (.inr ⟨i, _, C, memN_iff.1 hm, hrow, hi⟩) (fun j => vs.getD (e.val * sz' + (o + j)) undef) (fun j hj => ?_) (fun j hj => ?_)
            · rw [List.length_drop, h5 e hlt] at hj
              rw [Nat.add_assoc]
              exact cell_of_heap h1 (by omega)
            · rw [List.length_drop, h5 e hlt] at hj
              rw [drop_getD]
              exact (h6 e (o + j) hlt (by omega)).mono (fun _ h => .inl h) (fun _ _ => rfl) (fun _ _ h => h)
        · exact .any _
      · exact .any _
    · exact up hr
  · rename_i i sz off len
    split
    · rename_i hm
      simp only [hm] at hp'
      exact (borCell_ok h hr hp').up
    · exact up hr
  · exact up hr
theorem borOnes_ok (h : Hp cx I β hp nx w) (cs : List SV) : ∀ (u : Nat → Value), (borOnes Ar.real hp bs cs).1 → (∀ j, j < cs.length → Rep w I β (cs.getD j .any) (u j)) →
    (borOnes Ar.real hp bs cs).2.length = cs.length ∧ ∀ j, j < cs.length → Rep w (fun b => I b ∨ Lent β hp bs b) β ((borOnes Ar.real hp bs cs).2.getD j .any) (u j) := by
  induction cs with
  | nil => intro u _ _; exact ⟨rfl, fun j hj => by simp at hj⟩
  | cons s r ih =>
    intro u hp' hr
    simp only [borOnes] at hp' ⊢
    obtain ⟨h1, h2⟩ := ih (fun j => u (j + 1)) hp'.2 (fun j hj => by simpa using hr (j + 1) (by simpa using hj))
    refine ⟨by simp [h1], fun j hj => ?_⟩
    cases j with
    | zero => simpa using borOne_ok h (by simpa using hr 0 (by simp)) hp'.1
    | succ j => simpa using h2 j (by simpa using hj)
theorem borSV_ok (h : Hp cx I β hp nx w) {s : SV} {v : Value} (hr : Rep w I β s v) (hp' : (borSV Ar.real hp bs s).1) : Rep w (fun b => I b ∨ Lent β hp bs b) β (borSV Ar.real hp bs s).2 v := by
  unfold borSV at *
  split
  · rename_i cs
    cases hr with
    | agg hl hr =>
      obtain ⟨k1, k2⟩ := borOnes_ok h cs _ hp' hr
      exact .agg (by rw [k1, hl]) (fun j hj => k2 j (by rw [← k1]; exact hj))
  · rename_i hne
    exact borOne_ok h hr (by
      split at hp'
      · exact absurd rfl (hne _)
      · exact hp')
theorem borSVs_ok (h : Hp cx I β hp nx w) (cs : List SV) : ∀ (u : Nat → Value), (borSVs Ar.real hp bs cs).1 → (∀ j, Rep w I β (cs.getD j .any) (u j)) →
    (borSVs Ar.real hp bs cs).2.length = cs.length ∧ ∀ j, Rep w (fun b => I b ∨ Lent β hp bs b) β ((borSVs Ar.real hp bs cs).2.getD j .any) (u j) := by
  induction cs with
  | nil => intro u _ _; exact ⟨rfl, fun j => .any _⟩
  | cons s r ih =>
    intro u hp' hr
    simp only [borSVs] at hp' ⊢
    obtain ⟨h1, h2⟩ := ih (fun j => u (j + 1)) hp'.2 (fun j => by simpa using hr (j + 1))
    refine ⟨by simp [h1], fun j => ?_⟩
    cases j with
    | zero => simpa using borSV_ok h (by simpa using hr 0) hp'.1
    | succ j => simpa using h2 j
def flatOne (s : SV) : Bool :=
  match s with
  | .ro _ _ _ | .rp _ | .ra _ _ _ | .agg _ | .tup _ | .fn _ _ => false
  | _ => true
def allB (p : SV → Bool) : List SV → Bool
  | [] => true
  | s :: r => match p s with
    | true => allB p r
    | false => false
def flatSV : Nat → SV → Bool
  | 0, s => flatOne s
  | d + 1, s => match s with
    | .agg cs => allB (flatSV d) cs
    | .tup cs => allB (flatSV d) cs
    | s => flatOne s
theorem allB_get {p : SV → Bool} {cs : List SV} (h : allB p cs = true) : ∀ j, j < cs.length → p (cs.getD j .any) = true := by
  induction cs with
  | nil => intro j hj; simp at hj
  | cons s r ih =>
    intro j hj
    unfold allB at h
    split at h
    · rename_i hs
      cases j with
      | zero => simpa using hs
      | succ j => simpa using ih h j (by simpa using hj)
    · cases h
theorem flatOne_ok {J : Nat → Prop} {s : SV} {v : Value} (h : Rep w I β s v) (hf : flatOne s = true) : Rep w J β s v := by
  cases h with
  | agg hl h => cases hf
  | tup hl h => cases hf
  | fn hl h => cases hf
  | any v => exact .any v
  | lit k n => exact .lit k n
  | int k n => exact .int k n
  | bl b => exact .bl b
  | bs b => exact .bs b
  | con v => exact .con v
  | nilp => exact .nilp
  | nils A => exact .nils A
  | str s => exact .str s
  | ptr hb => exact .ptr hb
  | sl hb hc hl ho => exact .sl hb hc hl ho
  | sl0 hl A => exact .sl0 hl A
  | pe hb => exact .pe hb
  | mp hb => exact .mp hb
  | ro0 sz n hn f A c => cases hf
  | ro hb hc hlen u h1 hcell hrep => cases hf
  | rp hb u hcell hrep => cases hf
  | ra hb hlen u hcell hrep => cases hf
theorem flatSV_ok {J : Nat → Prop} (d : Nat) : ∀ {s : SV} {v : Value}, Rep w I β s v → flatSV d s = true → Rep w J β s v := by
  induction d with
  | zero => intro s v h hf; exact flatOne_ok h hf
  | succ d ih =>
    intro s v h hf
    unfold flatSV at hf
    split at hf
    · cases h with
      | agg hl h => exact .agg hl (fun j hj => ih (h j hj) (allB_get hf j hj))
    · cases h with
      | tup hl h => exact .tup hl (fun j hj => ih (h j hj) (allB_get hf j hj))
    · exact flatOne_ok h hf
def flatBlk (x : Blk) : Prop :=
  match x with
  | .cells _ cs => allB (flatSV 2) cs = true
  | .row _ _ _ f => ∀ e, allB flatOne (f e) = true
  | .obj _ => True
  | .wm _ _ => True
  | .num _ _ => True
  | .lp _ _ _ _ _ _ _ => False
  | .rowc _ _ _ _ _ _ => False
def flatH : Hl → Prop
  | [] => True
  | (_, x) :: r => flatBlk x ∧ flatH r
theorem flatBlk_ok {J : Nat → Prop} {b C : Nat} {x : Blk} (h : BlkOk w I β b C x) (hf : flatBlk x) : BlkOk w J β b C x := by
  cases x with
  | cells t cs =>
    obtain ⟨vs, fz, h1, h2, h3, h4⟩ := h
    exact ⟨vs, fz, h1, h2, h3, fun j hj => flatSV_ok 2 (h4 j hj) (allB_get hf j hj)⟩
  | row t sz n f =>
    obtain ⟨vs, fz, h1, h2, h3, h4, h5, h7, h6⟩ := h
    refine ⟨vs, fz, h1, h2, h3, h4, h5, h7, fun e j he hj => flatOne_ok (h6 e j he hj) ?_⟩
    exact allB_get (hf e) j (by rw [h5 e he]; exact hj)
  | obj o => exact h
  | wm sz L => exact h
  | num mb o => exact h
  | lp l ps x c tms s pe => exact hf.elim
  | rowc t sz n bb cp f => exact hf.elim
theorem flatH_look {H : Hl} (h : flatH H) {i : Nat} {x : Blk} (hx : look H i = some x) : flatBlk x := by
  induction H with
  | nil => cases hx
  | cons p r ih =>
    obtain ⟨j, y⟩ := p
    unfold look at hx
    split at hx
    · cases hx; exact h.1
    · exact ih h.2 hx
end
end Go.Eng
/-
  The symbolic executor: calls, in a window of names, with own blocks lent.
-/
namespace Go.Eng
def lookU : List (Nat × Option Blk) → Nat → Option (Option Blk)
  | [], _ => none
  | (j, x) :: r, i => match Nat.beq j i with
    | true => some x
    | false => lookU r i
def over (U : List (Nat × Option Blk)) (hp : HF) : HF := fun j =>
  match lookU U j with
  | some x => x
  | none => hp j
def nonesU : List Nat → List (Nat × Option Blk)
  | [] => []
  | i :: r => (i, none) :: nonesU r
def outU (n : Nat) (ρ : List (Nat × Nat)) : Hl → List (Nat × Option Blk)
  | [] => nonesU (srcs ρ)
  | (i, x) :: r => (outId n ρ i, some (mvBlk (outId n ρ) x)) :: outU n ρ r
def subF (w : World) (I : Nat → Prop) (β : Vln) (hp : HF) (ρ : List (Nat × Nat)) (bs : List Nat) : Cx :=
  { w0 := w, B := fun b => ∃ i j x C, lookR ρ i = some j ∧ hp i = some x ∧ β i = some (b, C), I0 := fun b => I b ∨ Lent β hp bs b, β0 := renβ 0 ρ β }
def winβ (n W : Nat) (ρ : List (Nat × Nat)) (β β' : Vln) : Vln := fun j =>
  match lookR ρ j with
  | some i => β' i
  | none => if n ≤ j ∧ j < n + W then β' (j - n) else β j
def srcW (n W : Nat) : List (Nat × Nat) → Bool
  | [] => true
  | (i, _) :: r => (Nat.blt i n || Nat.ble (n + W) i) && !(isSome (lookR r i)) && srcW n W r
def apartB (ρ : List (Nat × Nat)) : List Nat → Bool
  | [] => true
  | i :: r => !(isSome (lookR ρ i)) && apartB ρ r
def leE (A : Ar) (ρ : List (Nat × Nat)) (hp : HF) : Hl → Prop
  | [] => True
  | (t, y) :: r => match backR ρ t with
    | some s => match hp s with
      | some x => leBlk A (renBlk 0 ρ x) y ∧ leE A ρ hp r
      | none => False
    | none => False
section
variable {cx : Cx} {G : Gl} {w w' : World} {I I' : Nat → Prop} {β β' : Vln} {hp : HF} {Nx n W : Nat} {ρ : List (Nat × Nat)} {bs : List Nat}
theorem srcW_win {i j : Nat} (hs : srcW n W ρ = true) (h : lookR ρ i = some j) : i < n ∨ n + W ≤ i := by
  induction ρ with
  | nil => cases h
  | cons p r ih =>
    obtain ⟨a, b⟩ := p
    simp only [srcW, Bool.and_eq_true, Bool.or_eq_true] at hs
    unfold lookR at h
    split at h
    · rename_i e
      have e := Nat.eq_of_beq_eq_true e
      subst e
      rcases hs.1.1 with h1 | h1
      · exact .inl (by simpa using h1)
      · exact .inr (Nat.le_of_ble_eq_true h1)
    · exact ih hs.2 h
theorem srcW_back {i j : Nat} (hs : srcW n W ρ = true) (h : backR ρ j = some i) : lookR ρ i = some j := by
  induction ρ with
  | nil => cases h
  | cons p r ih =>
    obtain ⟨a, b⟩ := p
    simp only [srcW, Bool.and_eq_true] at hs
    unfold backR at h
    split at h
    · rename_i e
      have e := Nat.eq_of_beq_eq_true e
      subst e
      cases h
      simp [lookR]
    · have := ih hs.2 h
      unfold lookR
      split
      · rename_i e
        have e := Nat.eq_of_beq_eq_true e
        subst e
        have h2 := hs.1.2
        rw [this] at h2
        simp [isSome] at h2
      · exact this
theorem apartB_spec (h : apartB ρ bs = true) : ∀ i ∈ bs, lookR ρ i = none := by
  induction bs with
  | nil => intro i hi; cases hi
  | cons j r ih =>
    intro i hi
    simp only [apartB, Bool.and_eq_true] at h
    rcases List.mem_cons.1 hi with rfl | hi
    · cases hl : lookR ρ i with
      | none => rfl
      | some k => have := h.1; rw [hl] at this; simp [isSome] at this
    · exact ih h.2 i hi
theorem lookU_nones {l : List Nat} {j : Nat} {x : Option Blk} (h : lookU (nonesU l) j = some x) : x = none ∧ j ∈ l := by
  induction l with
  | nil => cases h
  | cons i r ih =>
    unfold nonesU lookU at h
    split at h
    · rename_i e
      have e := Nat.eq_of_beq_eq_true e
      subst e; cases h
      exact ⟨rfl, by simp⟩
    · obtain ⟨h1, h2⟩ := ih h
      exact ⟨h1, by simp [h2]⟩
theorem lookU_nones_none {l : List Nat} {j : Nat} (h : lookU (nonesU l) j = none) : j ∉ l := by
  induction l with
  | nil => simp
  | cons i r ih =>
    unfold nonesU lookU at h
    split at h
    · cases h
    · rename_i e
      have := ih h
      simp only [List.mem_cons, not_or]
      exact ⟨fun e' => by subst e'; simp at e, this⟩
theorem mem_srcs {i : Nat} : i ∈ srcs ρ ↔ ∃ j, lookR ρ i = some j := by
  induction ρ with
  | nil => simp [srcs, lookR]
  | cons p r ih =>
    obtain ⟨a, b⟩ := p
    simp only [srcs, List.mem_cons]
    unfold lookR
    split
    · rename_i e
      have e := Nat.eq_of_beq_eq_true e
      subst e
      simp
    · rename_i e
      rw [ih]
      have hne : i ≠ a := fun e' => by subst e'; simp at e
      simp [hne]
theorem lookU_out (H' : Hl) {j : Nat} {x : Option Blk} (h : lookU (outU n ρ H') j = some x) : (∃ i y, look H' i = some y ∧ outId n ρ i = j ∧ x = some (mvBlk (outId n ρ) y)) ∨ (x = none ∧ ∃ k, lookR ρ j = some k) := by
  induction H' with
  | nil =>
    obtain ⟨h1, h2⟩ := lookU_nones h
    exact .inr ⟨h1, mem_srcs.1 h2⟩
  | cons p r ih =>
    obtain ⟨k, y⟩ := p
    unfold outU lookU at h
    split at h
    · rename_i e
      have e := Nat.eq_of_beq_eq_true e
      cases h
      exact .inl ⟨k, y, by simp [look], e, rfl⟩
    · rename_i e
      rcases ih h with ⟨i, y', h1, h2, h3⟩ | h1
      · refine .inl ⟨i, y', ?_, h2, h3⟩
        simp only [look]
        rw [show Nat.beq k i = false from by cases hb : Nat.beq k i with | false => rfl | true => exact absurd h2 (by have := Nat.eq_of_beq_eq_true hb; subst this; intro e'; subst e'; simp at e)]
        exact h1
      · exact .inr h1
theorem lookU_out_none (H' : Hl) {j : Nat} (h : lookU (outU n ρ H') j = none) : lookR ρ j = none := by
  induction H' with
  | nil =>
    have := lookU_nones_none h
    cases hl : lookR ρ j with
    | none => rfl
    | some k => exact absurd (mem_srcs.2 ⟨k, hl⟩) this
  | cons p r ih =>
    obtain ⟨k, y⟩ := p
    unfold outU lookU at h
    split at h
    · cases h
    · exact ih h
theorem winβ_out (hs : srcW n W ρ = true) {i : Nat} (hi : i < W ∨ ∃ s, backR ρ i = some s) : winβ n W ρ β β' (outId n ρ i) = β' i := by
  unfold winβ outId
  cases hb : backR ρ i with
  | some s => simp only; rw [srcW_back hs hb]
  | none =>
    simp only
    have hi : i < W := by
      rcases hi with h | ⟨s, h⟩
      · exact h
      · rw [hb] at h; cases h
    cases hl : lookR ρ (n + i) with
    | some k => have := srcW_win hs hl; omega
    | none =>
      simp only
      rw [if_pos ⟨by omega, by omega⟩]
      congr 1
      omega
theorem mvFlat_ok' {σ : Nat → Nat} {β3 : Vln} (h3 : ∀ i x, β' i = some x → β3 (σ i) = some x) {s : SV} {v : Value} (h : Rep w I β' s v) : Rep w I β3 (mvFlat σ s) v := by
  cases h with
  | agg hl h => exact .any _
  | tup hl h => exact .any _
  | fn hl h => exact .any _
  | any v => exact .any v
  | lit k n => exact .lit k n
  | int k n => exact .int k n
  | bl b => exact .bl b
  | bs b => exact .bs b
  | con v => exact .con v
  | nilp => exact .nilp
  | nils A => exact .nils A
  | str s => exact .str s
  | ptr hb => exact .ptr (h3 _ _ hb)
  | sl hb hc hl ho => exact .sl (h3 _ _ hb) hc hl ho
  | sl0 hl A => exact .sl0 hl A
  | pe hb => exact .pe (h3 _ _ hb)
  | mp hb => exact .mp (h3 _ _ hb)
  | ro0 sz n hn f A c => exact .ro0 sz n hn f A c
  | ro hb hc hlen u h1 hcell hrep => exact .ro hb hc hlen u h1 hcell hrep
  | rp hb u hcell hrep => exact .rp hb u hcell hrep
  | ra hb hlen u hcell hrep => exact .ra hb hlen u hcell hrep
theorem mvSV_ok' {σ : Nat → Nat} {β3 : Vln} (h3 : ∀ i x, β' i = some x → β3 (σ i) = some x) (d : Nat) : ∀ {s : SV} {v : Value}, Rep w I β' s v → Rep w I β3 (mvSV d σ s) v := by
  induction d with
  | zero => intro s v h; exact mvFlat_ok' h3 h
  | succ d ih =>
    intro s v h
    unfold mvSV
    split
    · cases h with
      | agg hl h => exact .agg (by simpa using hl) (fun j hj => by rw [map_getD' _ (mvSV_any _ _)]; exact ih (h j (by simpa using hj)))
    · cases h with
      | tup hl h => exact .tup (by simpa using hl) (fun j hj => by rw [map_getD' _ (mvSV_any _ _)]; exact ih (h j (by simpa using hj)))
    · cases h with
      | fn hl h => exact .fn (by simpa using hl) (fun j hj => by rw [map_getD' _ (mvSV_any _ _)]; exact ih (h j (by simpa using hj)))
    · exact mvFlat_ok' h3 h
theorem leE_ok (hs : srcW n W ρ = true) {H0 : Hl} (h : leE Ar.real ρ hp H0) : ∀ t y, look H0 t = some y → ∃ s x, lookR ρ s = some t ∧ hp s = some x ∧ Blkle (renBlk 0 ρ x) y ∧ BlkG (renBlk 0 ρ x) y := by
  induction H0 with
  | nil => intro t y h; cases h
  | cons p r ih =>
    obtain ⟨t0, y0⟩ := p
    intro t y hl
    unfold leE at h
    split at h
    · rename_i s hb
      split at h
      · rename_i x hx
        unfold look at hl
        split at hl
        · rename_i e
          have e := Nat.eq_of_beq_eq_true e
          subst e; cases hl
          exact ⟨s, x, srcW_back hs hb, hx, leBlk_ok h.1⟩
        · exact ih h.2 t y hl
      · exact h.elim
    · exact h.elim
theorem Hp.enterF {k : Nat} {H0 : Hl} (h : Hp cx I β hp Nx w) (hok : renOk 0 ρ = true) (hs : srcW n W ρ = true) (hap : apartB ρ bs = true) (hk : renNx 0 ρ ≤ k)
    (hH : ∀ t y, look H0 t = some y → ∃ s x, lookR ρ s = some t ∧ hp s = some x ∧ Blkle (renBlk 0 ρ x) y ∧ BlkG (renBlk 0 ρ x) y) :
    Hp (subF w I β hp ρ bs) (fun b => I b ∨ Lent β hp bs b) (renβ 0 ρ β) (look H0) k w := by
  have hrid : ∀ {s t : Nat}, lookR ρ s = some t → renId 0 ρ s = some t := fun hl => by unfold renId; rw [hl]
  have hI : ∀ b, I b → I b ∨ Lent β hp bs b := fun _ h => .inl h
  have hnL : ∀ {s t b C : Nat} {x : Blk}, lookR ρ s = some t → hp s = some x → β s = some (b, C) → ¬ I b → ¬ (I b ∨ Lent β hp bs b) := by
    rintro s t b C x h1 h2 h3 h4 (h5 | ⟨i, y, D, k1, k2, k3⟩)
    · exact h4 h5
    · have e := h.inj s i b C D x y h2 k2 h3 k3
      subst e
      rw [apartB_spec hap _ k1] at h1; cases h1
  refine { os := rfl, tape := rfl, output := rfl, size := Nat.le_refl _, frame := fun _ _ _ => rfl, ibase := fun _ h => h, iext := fun b hb => .inl hb, ilt := ?_, βbase := fun _ _ h => h, blt := ?_, fresh := ?_, blk := ?_, inj := ?_ }
  · rintro b (hb | ⟨i, x, C, h1, h2, h3⟩)
    · exact h.ilt b hb
    · exact h.blt _ _ _ h3
  · intro i b C hb
    unfold renβ at hb
    split at hb
    · exact h.blt _ _ _ hb
    · split at hb
      · exact h.blt _ _ _ hb
      · cases hb
  · intro i hi
    unfold renβ
    split
    · rename_i j hj
      have := backR_nx (N := 0) hj; omega
    · rw [if_neg (by omega)]
  · intro t y hy
    obtain ⟨s, x, h1, h2, h3, h4⟩ := hH t y hy
    have hβ : renβ 0 ρ β t = β s := renβ_of hok (hrid h1)
    rcases h.blk s x h2 with ⟨b, C, q1, q2, q3, q4⟩ | ⟨q1, q2, t', sz, n, f, rfl, hz⟩
    · refine .inl ⟨b, C, hβ.trans q1, .inl ⟨s, t, x, C, h1, h2, q1⟩, hnL h1 h2 q1 q3, h3 _ _ _ _ _ ?_⟩
      have q4 : BlkOk w (fun b => I b ∨ Lent β hp bs b) β b C x := q4.mono hI (fun _ _ => rfl) rfl (fun _ _ h => h)
      cases x with
      | cells t cs =>
        obtain ⟨vs, fz, k1, k2, k3, k4⟩ := q4
        exact ⟨vs, fz, k1, k2, by simpa using k3, fun j hj => by rw [map_getD' _ rfl]; exact renSV_ok hok (k4 j (by simpa using hj))⟩
      | row t sz n f => exact q4
      | rowc t sz n bb cp f => exact q4
      | obj o => exact q4
      | wm sz L => exact q4
      | num mb o => exact q4
      | lp l ps x c tms s pe =>
        obtain ⟨k0, tv, fn, D, k1, k2, k3⟩ := q4
        exact ⟨k0, tv, fn, D, k1, by simpa using k2, fun j hj => by rw [map_getD' _ rfl]; exact renSV_ok hok (k3 j (by simpa using hj))⟩
    · obtain ⟨t2, sz2, n2, f2, rfl, hz2⟩ := h4 _ _ _ _ rfl hz
      exact .inr ⟨hβ.trans q1, Nat.lt_of_lt_of_le (backR_nx (backR_of_lookR hok h1)) hk, _, _, _, _, rfl, hz2⟩
  · intro i j b C D y z hy hz hi hj
    obtain ⟨s, x, h1, h2, _⟩ := hH i y hy
    obtain ⟨s', x', h1', h2', _⟩ := hH j z hz
    rw [renβ_of hok (hrid h1)] at hi
    rw [renβ_of hok (hrid h1')] at hj
    have e := h.inj s s' b C D x x' h2 h2' hi hj
    subst e
    rw [h1] at h1'
    cases h1'
    rfl
theorem Hp.leaveF {n' : Nat} {H' : Hl} (h : Hp cx I β hp Nx w) (hok : renOk 0 ρ = true) (hs : srcW n W ρ = true) (hap : apartB ρ bs = true) (hfr : ∀ j, n ≤ j → j < n + W → β j = none ∧ hp j = none) (hNx : n + W ≤ Nx) (hn' : n' ≤ W)
    (hfl : bs = [] ∨ flatH H') (hsrc : ∀ s t, lookR ρ s = some t → s < Nx) (h' : Hp (subF w I β hp ρ bs) I' β' (look H') n' w') :
    ∃ I2 : Nat → Prop, (∀ b, I2 b → I' b) ∧ (bs = [] → I2 = I') ∧ Hp cx I2 (winβ n W ρ β β') (over (outU n ρ H') hp) Nx w' ∧ (∀ b, I b → I2 b) ∧ (∀ b, I b → w'.heap[b]? = w.heap[b]?) ∧ (∀ i x, β i = some x → winβ n W ρ β β' i = some x) := by
  have hrid : ∀ {s t : Nat}, lookR ρ s = some t → renId 0 ρ s = some t := fun hl => by unfold renId; rw [hl]
  have hext : ∀ i x, β i = some x → winβ n W ρ β β' i = some x := by
    intro i x hi
    unfold winβ
    split
    · rename_i j hj
      exact h'.βbase j x ((renβ_of hok (hrid hj)).trans hi)
    · split
      · rename_i hw
        rw [(hfr i hw.1 hw.2).1] at hi; cases hi
      · exact hi
  have hout : ∀ i x, β' i = some x → winβ n W ρ β β' (outId n ρ i) = some x := by
    intro i x hi
    rw [winβ_out hs]
    · exact hi
    · rcases Nat.lt_or_ge i n' with h1 | h1
      · exact .inl (by omega)
      · rw [h'.fresh i h1] at hi; cases hi
  have hB : ∀ b, (subF w I β hp ρ bs).B b → (cx.B b ∨ cx.w0.heap.size ≤ b) ∧ ¬ I b ∧ b < w.heap.size := by
    rintro b ⟨i, j, x, C, h1, h2, h3⟩
    rcases h.blk i x h2 with ⟨b2, C2, q1, q2, q3, q4⟩ | ⟨q1, _⟩
    · rw [h3] at q1; cases q1
      exact ⟨q2, q3, h.blt _ _ _ h3⟩
    · rw [h3] at q1; cases q1
  have hL : ∀ b, Lent β hp bs b → (cx.B b ∨ cx.w0.heap.size ≤ b) ∧ ¬ I b ∧ b < w.heap.size := by
    rintro b ⟨i, x, C, h1, h2, h3⟩
    rcases h.blk i x h2 with ⟨b2, C2, q1, q2, q3, q4⟩ | ⟨q1, _⟩
    · rw [h3] at q1; cases q1
      exact ⟨q2, q3, h.blt _ _ _ h3⟩
    · rw [h3] at q1; cases q1
  have hII : ∀ b, I b → I' b := fun b hb => h'.ibase b (.inl hb)
  have hIw : ∀ b, I b → w'.heap[b]? = w.heap[b]? := fun b hb => h'.frame b (h.ilt b hb) (fun hb' => (hB b hb').2.1 hb)
  have hsz : w.heap.size ≤ w'.heap.size := h'.size
  let I2 : Nat → Prop := fun b => I' b ∧ ¬ Lent β hp bs b
  have hI2 : ∀ b, I b → I2 b := fun b hb => ⟨hII b hb, fun hl => (hL b hl).2.1 hb⟩
  have hempty : bs = [] → I2 = I' := by
    rintro rfl
    funext b
    exact propext ⟨fun h => h.1, fun h => ⟨h, by rintro ⟨i, x, C, h1, _⟩; cases h1⟩⟩
  refine ⟨I2, fun b hb => hb.1, hempty, ?_, hI2, hIw, hext⟩
  have hnew : ∀ {b C : Nat} {x : Blk} {i : Nat}, look H' i = some x → BlkOk w' I' β' b C x → BlkOk w' I2 (winβ n W ρ β β') b C (mvBlk (outId n ρ) x) := by
    intro b C x i hx hb
    have hb : BlkOk w' I2 β' b C x := by
      rcases hfl with hbs | hf
      · rw [hempty hbs]; exact hb
      · exact flatBlk_ok hb (flatH_look hf hx)
    cases x with
    | cells t cs =>
      obtain ⟨vs, fz, k1, k2, k3, k4⟩ := hb
      exact ⟨vs, fz, k1, k2, by simpa using k3, fun j hj => by rw [map_getD' _ (mvSV_any _ _)]; exact mvSV_ok' hout 2 (k4 j (by simpa using hj))⟩
    | row t sz n f => exact hb
    | rowc t sz n bb cp f => exact hb
    | obj o => exact hb
    | wm sz L => exact hb
    | num mb o => exact hb
    | lp l ps x c tms s pe =>
      obtain ⟨k0, tv, fn, D, k1, k2, k3⟩ := hb
      exact ⟨k0, tv, fn, D, k1, by simpa using k2, fun j hj => by rw [map_getD' _ (mvSV_any _ _)]; exact mvSV_ok' hout 2 (k3 j (by simpa using hj))⟩
  have hrest : ∀ j y, lookU (outU n ρ H') j = none → hp j = some y → (∃ b C, β j = some (b, C) ∧ winβ n W ρ β β' j = some (b, C) ∧ (cx.B b ∨ cx.w0.heap.size ≤ b) ∧ ¬ I2 b ∧ b < w.heap.size ∧ ¬ (subF w I β hp ρ bs).B b ∧ BlkOk w' I2 (winβ n W ρ β β') b C y) ∨ (β j = none ∧ Ghost (winβ n W ρ β β') Nx j y) := by
    intro j y hu h1
    have h2 := lookU_out_none H' hu
    rcases h.blk j y h1 with ⟨b, C, q1, q2, q3, q4⟩ | ⟨q1, q2, q3⟩
    · have hlt := h.blt _ _ _ q1
      have hnB : ¬ (subF w I β hp ρ bs).B b := by
        rintro ⟨i, k, x, D, e1, e2, e3⟩
        have e := h.inj i j b D C x y e2 h1 e3 q1
        subst e
        rw [h2] at e1
        cases e1
      have hnI : ¬ I2 b := by
        rintro ⟨hb, hnl⟩
        rcases h'.iext b hb with (hb | hb) | hb | hb
        · exact q3 hb
        · exact hnl hb
        · exact hnB hb
        · exact absurd (show w.heap.size ≤ b from hb) (by omega)
      exact .inl ⟨b, C, q1, hext _ _ q1, q2, hnI, hlt, hnB, q4.mono hI2 hIw (h'.frame b hlt hnB) hext⟩
    · refine .inr ⟨q1, ?_, q2, q3⟩
      unfold winβ
      rw [h2]
      simp only
      rw [if_neg]
      · exact q1
      · rintro ⟨hw1, hw2⟩
        rw [(hfr j hw1 hw2).2] at h1; cases h1
  refine { os := h'.os.trans h.os, tape := h'.tape.trans h.tape, output := h'.output.trans h.output, size := Nat.le_trans h.size hsz, frame := ?_, ibase := fun b hb => hI2 b (h.ibase b hb), iext := ?_, ilt := fun b hb => h'.ilt b hb.1, βbase := fun i x hx => hext i x (h.βbase i x hx), blt := ?_, fresh := ?_, blk := ?_, inj := ?_ }
  · intro b hb hnB
    have hlt : b < w.heap.size := Nat.lt_of_lt_of_le hb h.size
    rw [h'.frame b hlt (fun hb' => by rcases (hB b hb').1 with h1 | h1
                                      · exact hnB h1
                                      · omega)]
    exact h.frame b hb hnB
  · intro b hb
    rcases h'.iext b hb.1 with (hb' | hb') | hb' | hb'
    · exact h.iext b hb'
    · exact absurd hb' hb.2
    · exact .inr (hB b hb').1
    · exact .inr (.inr (Nat.le_trans h.size hb'))
  · intro i b C hb
    unfold winβ at hb
    split at hb
    · exact h'.blt _ _ _ hb
    · split at hb
      · exact h'.blt _ _ _ hb
      · exact Nat.lt_of_lt_of_le (h.blt _ _ _ hb) hsz
  · intro i hi
    unfold winβ
    split
    · rename_i j hj
      have := hsrc _ _ hj
      omega
    · rw [if_neg (by omega)]
      exact h.fresh _ hi
  · intro j y hy
    unfold over at hy
    split at hy
    · rename_i x hu
      subst hy
      rcases lookU_out H' hu with ⟨i, z, h1, rfl, h3⟩ | ⟨h1, _⟩
      · cases h3
        rcases h'.blk i z h1 with ⟨b, C, q1, q2, q3, q4⟩ | ⟨q1, q2, q3⟩
        · refine .inl ⟨b, C, hout _ _ q1, ?_, fun hb => q3 hb.1, hnew h1 q4⟩
          rcases q2 with q2 | q2
          · exact (hB b q2).1
          · exact .inr (Nat.le_trans h.size q2)
        · refine .inr ⟨(winβ_out hs (.inl (by omega))).trans q1, ?_, ?_⟩
          · unfold outId
            split
            · rename_i k hk
              exact hsrc _ _ (srcW_back hs hk)
            · omega
          · obtain ⟨t, sz, n, f, rfl, hz⟩ := q3
            exact ⟨_, _, _, _, rfl, hz⟩
      · cases h1
    · rename_i hu
      rcases hrest j y hu hy with ⟨b, C, q1, q2, q3, q4, q5, q6, q7⟩ | ⟨_, hg⟩
      · exact .inl ⟨b, C, q2, q3, q4, q7⟩
      · exact .inr hg
  · intro j k b C D y z hy hz hj hk
    have new : ∀ {i : Nat} {x : Blk} {C : Nat}, look H' i = some x → winβ n W ρ β β' (outId n ρ i) = some (b, C) → β' i = some (b, C) := by
      intro i x C hx hi
      rw [winβ_out hs] at hi
      · exact hi
      · rcases h'.blk i x hx with ⟨b2, C2, q1, _⟩ | ⟨_, q2, _⟩
        · rcases Nat.lt_or_ge i n' with h1 | h1
          · exact .inl (by omega)
          · rw [h'.fresh i h1] at q1; cases q1
        · exact .inl (by omega)
    have cross : ∀ (i j : Nat) (x y : Blk) (C D : Nat), look H' i = some x → lookU (outU n ρ H') j = none → hp j = some y → winβ n W ρ β β' (outId n ρ i) = some (b, C) → winβ n W ρ β β' j = some (b, D) → False := by
      intro i j x y C D hx hu hy hi hj
      have hi := new hx hi
      rcases hrest j y hu hy with ⟨b2, C2, q1, q2, q3, q4, q5, q6, q7⟩ | ⟨_, hg, _⟩
      · rw [hj] at q2; cases q2
        rcases h'.blk i x hx with ⟨b2, C2, p1, p2, p3, p4⟩ | ⟨p1, _⟩
        · rw [hi] at p1; cases p1
          rcases p2 with p2 | p2
          · exact q6 p2
          · exact absurd (show w.heap.size ≤ _ from p2) (by omega)
        · rw [hi] at p1; cases p1
      · rw [hj] at hg; cases hg
    unfold over at hy hz
    split at hy
    · rename_i x hu
      subst hy
      rcases lookU_out H' hu with ⟨i, y', h1, rfl, h3⟩ | ⟨h1, _⟩
      · cases h3
        split at hz
        · rename_i x' hu'
          subst hz
          rcases lookU_out H' hu' with ⟨i', z', h1', rfl, h3'⟩ | ⟨h1', _⟩
          · cases h3'
            have e := h'.inj i i' b C D _ _ h1 h1' (new h1 hj) (new h1' hk)
            rw [e]
          · cases h1'
        · rename_i hu'
          exact (cross _ _ _ _ _ _ h1 hu' hz hj hk).elim
      · cases h1
    · rename_i hu
      split at hz
      · rename_i x' hu'
        subst hz
        rcases lookU_out H' hu' with ⟨i', z', h1', rfl, h3'⟩ | ⟨h1', _⟩
        · cases h3'
          exact (cross _ _ _ _ _ _ h1' hu hy hk hj).elim
        · cases h1'
      · rename_i hu'
        rcases hrest j y hu hy with ⟨b2, C2, q1, q2, _⟩ | ⟨_, hg, _⟩
        · rw [hj] at q2; cases q2
          rcases hrest k z hu' hz with ⟨b3, C3, p1, p2, _⟩ | ⟨_, hg, _⟩
          · rw [hk] at p2; cases p2
            exact h.inj j k _ _ _ y z hy hz q1 p1
          · rw [hk] at hg; cases hg
        · rw [hj] at hg; cases hg
end
end Go.Eng
