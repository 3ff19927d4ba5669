/-
  A verified symbolic executor over the code of the model, and what it shows of this program: part 1 of 6 (LawWalDoes).
-/
import Derived.Orders
import Derived.Laws.World
import Derived.Laws.AppendOwn
import Derived.Laws.Sem
import Derived.WalkKit
set_option linter.unusedVariables false
set_option linter.unusedSimpArgs false
/-
  A verified symbolic executor over the model's Code: the words (symbolic values, own blocks, what they say of a world) and how they are kept.
-/
namespace Go.Eng
inductive NV where
  | l (n : Nat)
  | s (n : Nat)
def NV.val : NV → Nat
  | .l n => n
  | .s n => n
inductive SV where
  | any
  | lit (k : IntKind) (n : Int)
  | int (k : IntKind) (n : Int)
  | bl (b : Bool)
  | bs (b : Bool)
  | con (v : Value)
  | nilp
  | nils
  | str (s : List UInt8)
  | ptr (i o : Nat)
  | sl (i sz : Nat) (off len : NV)
  | pe (i sz : Nat) (e : NV) (o : Nat)
  | mp (i : Nat)
  | ro (sz : Nat) (n : NV) (f : NV → List SV)
  | rp (cs : List SV)
  | ra (sz : Nat) (n : Nat) (f : NV → List SV)
  | agg (cs : List SV)
  | tup (cs : List SV)
  | fn (k : Nat) (cs : List SV)
inductive Blk where
  | cells (t : TypeId) (cs : List SV)
  | row (t : TypeId) (sz : Nat) (n : NV) (f : NV → List SV)
  | obj (o : Obj)
  | wm (sz : Nat) (L : Int → Option (Nat → Int))
  | num (mb : Nat) (o : Obj)
  | lp (l : Nat) (ps : Array Tmp) (x c : Code) (tms : List SV) (s : LoopState) (pe : Option Code)
  | rowc (t : TypeId) (sz : Nat) (n : NV) (bb cp : Nat) (f : NV → List SV)
def bytesV (sz : Nat) (g : Nat → Int) : Value := .agg ((List.range sz).map fun i => Value.int .u8 (g i)).toArray
structure MapIs (sz : Nat) (es : Array MapEntry) (c : Nat) (L : Int → Option (Nat → Int)) : Prop where
  ent : ∀ e ∈ es.toList, ∃ k g, e.key = .int .i64 k ∧ L k = some g ∧ e.val = bytesV sz g
  keys : (es.toList.map (·.key)).Nodup
  all : ∀ k g, L k = some g → ∃ e ∈ es.toList, e.key = .int .i64 k
  born : (es.toList.map (·.born)).Nodup
  lt : ∀ e ∈ es.toList, e.born < c
abbrev Vln := Nat → Option (Nat × Nat)
def Vln.no : Vln := fun _ => none
inductive Rep (w : World) (I : Nat → Prop) : Vln → SV → Value → Prop
  | any {β : Vln} (v : Value) : Rep w I β .any v
  | lit {β : Vln} (k : IntKind) (n : Int) : Rep w I β (.lit k n) (.int k n)
  | int {β : Vln} (k : IntKind) (n : Int) : Rep w I β (.int k n) (.int k n)
  | bl {β : Vln} (b : Bool) : Rep w I β (.bl b) (.bool b)
  | bs {β : Vln} (b : Bool) : Rep w I β (.bs b) (.bool b)
  | con {β : Vln} (v : Value) : Rep w I β (.con v) v
  | nilp {β : Vln} : Rep w I β .nilp (.pointer none)
  | nils {β : Vln} (A : Option Addr) : Rep w I β .nils (.slice A 0 0)
  | str {β : Vln} (s : List UInt8) : Rep w I β (.str s) (.string ⟨s.toArray⟩)
  | ptr {β : Vln} {i o b C : Nat} (h : β i = some (b, C)) : Rep w I β (.ptr i o) (.pointer (some ⟨b, o, none⟩))
  | sl {β : Vln} {i sz b C o c : Nat} {off len : NV} (h : β i = some (b, C)) (hc : off.val + c = C) (hl : len.val ≤ c) (ho : 0 < c → o = off.val * sz) :
      Rep w I β (.sl i sz off len) (.slice (some ⟨b, o, none⟩) len.val c)
  | sl0 {β : Vln} {i sz : Nat} {off len : NV} (hl : len.val = 0) (A : Option Addr) : Rep w I β (.sl i sz off len) (.slice A 0 0)
  | pe {β : Vln} {i sz b C o : Nat} {e : NV} (h : β i = some (b, C)) : Rep w I β (.pe i sz e o) (.pointer (some ⟨b, e.val * sz + o, none⟩))
  | mp {β : Vln} {i b C : Nat} (h : β i = some (b, C)) : Rep w I β (.mp i) (.map (some b))
  | ro0 {β : Vln} (sz : Nat) (n : NV) (hn : n.val = 0) (f : NV → List SV) (A : Option Addr) (c : Nat) : Rep w I β (.ro sz n f) (.slice A 0 c)
  | ro {β : Vln} {sz b o c : Nat} {n : NV} {f : NV → List SV} (hI : I b) (hc : n.val ≤ c) (hlen : ∀ e : NV, e.val < n.val → (f e).length = sz) (u : Nat → Nat → Value)
      (h1 : ∀ i j, i < n.val → j < sz → (u i j).oneCell' = true)
      (hcell : ∀ i j, i < n.val → j < sz → w.cell? ⟨b, o + i * sz + j, none⟩ = some (u i j))
      (hrep : ∀ (e : NV) (j : Nat), e.val < n.val → j < sz → Rep w I Vln.no ((f e).getD j .any) (u e.val j)) :
      Rep w I β (.ro sz n f) (.slice (some ⟨b, o, none⟩) n.val c)
  | rp {β : Vln} {b o : Nat} {cs : List SV} (hI : I b) (u : Nat → Value) (hcell : ∀ j, j < cs.length → w.cell? ⟨b, o + j, none⟩ = some (u j))
      (hrep : ∀ j, j < cs.length → Rep w I Vln.no (cs.getD j .any) (u j)) : Rep w I β (.rp cs) (.pointer (some ⟨b, o, none⟩))
  | ra {β : Vln} {sz n b o : Nat} {f : NV → List SV} (hI : I b) (hlen : ∀ e : NV, e.val < n → (f e).length = sz) (u : Nat → Nat → Value)
      (hcell : ∀ i j, i < n → j < sz → w.cell? ⟨b, o + i * sz + j, none⟩ = some (u i j))
      (hrep : ∀ (e : NV) (j : Nat), e.val < n → j < sz → Rep w I Vln.no ((f e).getD j .any) (u e.val j)) :
      Rep w I β (.ra sz n f) (.pointer (some ⟨b, o, none⟩))
  | agg {β : Vln} {cs : List SV} {vs : Array Value} (hl : vs.size = cs.length) (h : ∀ j, j < cs.length → Rep w I β (cs.getD j .any) (vs.getD j undef)) : Rep w I β (.agg cs) (.agg vs)
  | tup {β : Vln} {cs : List SV} {vs : Array Value} (hl : vs.size = cs.length) (h : ∀ j, j < cs.length → Rep w I β (cs.getD j .any) (vs.getD j undef)) : Rep w I β (.tup cs) (.tuple vs)
  | fn {β : Vln} {k : Nat} {cs : List SV} {vs : Array Value} (hl : vs.size = cs.length) (h : ∀ j, j < cs.length → Rep w I β (cs.getD j .any) (vs.getD j undef)) : Rep w I β (.fn k cs) (.func (.func k) #[] vs)
theorem Rep.mono {w w' : World} {I I' : Nat → Prop} {β β' : Vln} {s : SV} {v : Value} (h : Rep w I β s v) (hI : ∀ b, I b → I' b)
    (hw : ∀ b, I b → w'.heap[b]? = w.heap[b]?) (hβ : ∀ i x, β i = some x → β' i = some x) : Rep w' I' β' s v := by
  induction h generalizing β' with
  | any v => exact .any v
  | lit k n => exact .lit k n
  | int k n => exact .int k n
  | bl b => exact .bl b
  | bs b => exact .bs b
  | con v => exact .con v
  | nilp => exact .nilp
  | nils A => exact .nils A
  | str s => exact .str s
  | ptr h => exact .ptr (hβ _ _ h)
  | sl h hc hl ho => exact .sl (hβ _ _ h) hc hl ho
  | sl0 hl A => exact .sl0 hl A
  | pe h => exact .pe (hβ _ _ h)
  | mp h => exact .mp (hβ _ _ h)
  | ro0 sz n hn f A c => exact .ro0 sz n hn f A c
  | ro hb hc hlen u h1 hcell hrep ih =>
    exact .ro (hI _ hb) hc hlen u h1 (fun i j hi hj => (World.cell?_of_block (hw _ hb)).trans (hcell i j hi hj)) (fun e j he hj => ih e j he hj (fun _ _ h => h))
  | rp hb u hcell hrep ih => exact .rp (hI _ hb) u (fun j hj => (World.cell?_of_block (hw _ hb)).trans (hcell j hj)) (fun j hj => ih j hj (fun _ _ h => h))
  | ra hb hlen u hcell hrep ih =>
    exact .ra (hI _ hb) hlen u (fun i j hi hj => (World.cell?_of_block (hw _ hb)).trans (hcell i j hi hj)) (fun e j he hj => ih e j he hj (fun _ _ h => h))
  | agg hl h ih => exact .agg hl fun j hj => ih j hj hβ
  | tup hl h ih => exact .tup hl fun j hj => ih j hj hβ
  | fn hl h ih => exact .fn hl fun j hj => ih j hj hβ
def NoFz (n : Nat) (fz : Nat × Nat) : Prop := fz.1 = fz.2 ∨ n ≤ fz.1
theorem NoFz.no {n : Nat} {fz : Nat × Nat} (h : NoFz n fz) : ∀ o, o < n → ¬ (fz.1 ≤ o ∧ o < fz.2) := by
  intro o ho; unfold NoFz at h; omega
def BlkOk (w : World) (I : Nat → Prop) (β : Vln) (b C : Nat) : Blk → Prop
  | .cells t cs => ∃ (vs : Array Value) (fz : Nat × Nat), w.heap[b]? = some (.cells vs t fz) ∧ NoFz vs.size fz ∧ vs.size = cs.length ∧ ∀ j, j < cs.length → Rep w I β (cs.getD j .any) (vs.getD j undef)
  | .row t sz n f => ∃ (vs : Array Value) (fz : Nat × Nat), w.heap[b]? = some (.cells vs t fz) ∧ NoFz vs.size fz ∧ vs.size = C * sz ∧ n.val ≤ C ∧
      (∀ e : NV, e.val < n.val → (f e).length = sz) ∧ (∀ k, k < n.val * sz → (vs.getD k undef).oneCell' = true) ∧ ∀ (e : NV) (j : Nat), e.val < n.val → j < sz → Rep w I Vln.no ((f e).getD j .any) (vs.getD (e.val * sz + j) undef)
  | .rowc t sz n bb cp f => (b = bb ∧ C = cp) ∧ ∃ (vs : Array Value) (fz : Nat × Nat), w.heap[b]? = some (.cells vs t fz) ∧ NoFz vs.size fz ∧ vs.size = C * sz ∧ n.val ≤ C ∧
      (∀ e : NV, e.val < n.val → (f e).length = sz) ∧ (∀ k, k < n.val * sz → (vs.getD k undef).oneCell' = true) ∧ ∀ (e : NV) (j : Nat), e.val < n.val → j < sz → Rep w I Vln.no ((f e).getD j .any) (vs.getD (e.val * sz + j) undef)
  | .obj o => w.heap[b]? = some o
  | .wm sz L => ∃ es c, w.heap[b]? = some (.map es c) ∧ MapIs sz es c L
  | .num mb o => b = mb ∧ w.heap[b]? = some o
  | .lp l ps x c tms s pe => b = l ∧ ∃ (tv : Array Value) (fn D : Nat), w.heap[b]? = some (.loop { state := s, pending := pe, fn := fn, tmps := tv, params := ps, assign := x, body := c, defers := D }) ∧
      tv.size = tms.length ∧ ∀ t, t < tms.length → Rep w I β (tms.getD t .any) (tv.getD t undef)
theorem BlkOk.mono {w w' : World} {I I' : Nat → Prop} {β β' : Vln} {b C : Nat} {x : Blk} (h : BlkOk w I β b C x) (hI : ∀ b, I b → I' b)
    (hw : ∀ b, I b → w'.heap[b]? = w.heap[b]?) (hb : w'.heap[b]? = w.heap[b]?) (hβ : ∀ i x, β i = some x → β' i = some x) : BlkOk w' I' β' b C x := by
  cases x with
  | cells t cs =>
    obtain ⟨vs, fz, h1, h2, h3, h4⟩ := h
    exact ⟨vs, fz, hb.trans h1, h2, h3, fun j hj => (h4 j hj).mono hI hw hβ⟩
  | row t sz n f =>
    obtain ⟨vs, fz, h1, h2, h3, h4, h5, h7, h6⟩ := h
    exact ⟨vs, fz, hb.trans h1, h2, h3, h4, h5, h7, fun e j he hj => (h6 e j he hj).mono hI hw (fun _ _ h => h)⟩
  | rowc t sz n bb cp f =>
    obtain ⟨h0, vs, fz, h1, h2, h3, h4, h5, h7, h6⟩ := h
    exact ⟨h0, vs, fz, hb.trans h1, h2, h3, h4, h5, h7, fun e j he hj => (h6 e j he hj).mono hI hw (fun _ _ h => h)⟩
  | obj o => exact hb.trans h
  | wm sz L =>
    obtain ⟨es, c, h1, h2⟩ := h
    exact ⟨es, c, hb.trans h1, h2⟩
  | num mb o => exact ⟨h.1, hb.trans h.2⟩
  | lp l ps x c tms s pe =>
    obtain ⟨h0, tv, fn, D, h1, h2, h3⟩ := h
    exact ⟨h0, tv, fn, D, hb.trans h1, h2, fun j hj => (h3 j hj).mono hI hw hβ⟩
structure Cx where
  w0 : World
  B : Nat → Prop
  I0 : Nat → Prop
  β0 : Vln
  D : List Deferred := []
abbrev HF := Nat → Option Blk
def HF.upd (hp : HF) (i : Nat) (x : Option Blk) : HF := fun j => if j = i then x else hp j
def Ghost (β : Vln) (nx i : Nat) (x : Blk) : Prop := β i = none ∧ i < nx ∧ ∃ t sz n f, x = .row t sz n f ∧ n.val = 0
structure Hp (cx : Cx) (I : Nat → Prop) (β : Vln) (hp : HF) (nx : Nat) (w : World) : Prop where
  os : w.os = cx.w0.os
  tape : w.tape = cx.w0.tape
  output : w.output = cx.w0.output
  size : cx.w0.heap.size ≤ w.heap.size
  frame : ∀ b, b < cx.w0.heap.size → ¬ cx.B b → w.heap[b]? = cx.w0.heap[b]?
  ibase : ∀ b, cx.I0 b → I b
  iext : ∀ b, I b → cx.I0 b ∨ cx.B b ∨ cx.w0.heap.size ≤ b
  ilt : ∀ b, I b → b < w.heap.size
  βbase : ∀ i x, cx.β0 i = some x → β i = some x
  blt : ∀ i b C, β i = some (b, C) → b < w.heap.size
  fresh : ∀ i, nx ≤ i → β i = none
  blk : ∀ i x, hp i = some x → (∃ b C, β i = some (b, C) ∧ (cx.B b ∨ cx.w0.heap.size ≤ b) ∧ ¬ I b ∧ BlkOk w I β b C x) ∨ Ghost β nx i x
  inj : ∀ i j b C D x y, hp i = some x → hp j = some y → β i = some (b, C) → β j = some (b, D) → i = j
def MarkOk (n : Nat) (I : Nat → Prop) (w : World) (m : Deferred) : Prop := ∃ D, m = { target := .collected D, args := #[] } ∧ I D ∧ n ≤ D ∧ w.heap[D]? = some (.deferred (some []))
def DfOk (cx : Cx) (I : Nat → Prop) (w : World) (ds : List Deferred) : Prop := ∃ ms, ds = ms ++ cx.D ∧ ms.Nodup ∧ ∀ m ∈ ms, MarkOk cx.w0.heap.size I w m
theorem DfOk.mono {cx : Cx} {I I' : Nat → Prop} {w w' : World} {ds : List Deferred} (h : DfOk cx I w ds) (hI : ∀ b, I b → I' b) (hw : ∀ b, I b → w'.heap[b]? = w.heap[b]?) : DfOk cx I' w' ds :=
  let ⟨ms, h1, h0, h2⟩ := h
  ⟨ms, h1, h0, fun m hm => let ⟨D, k1, k2, k3, k4⟩ := h2 m hm; ⟨D, k1, hI _ k2, k3, (hw _ k2).trans k4⟩⟩
section
variable {cx : Cx} {I : Nat → Prop} {β : Vln} {hp : HF} {nx : Nat} {w : World}
theorem Hp.drew (h : Hp cx I β hp nx w) : Hp cx I β hp nx w.drew :=
  { h with
    blk := fun i x hx => by
      rcases h.blk i x hx with ⟨b, C, h1, h2, h3, h4⟩ | hg
      · exact .inl ⟨b, C, h1, h2, h3, h4.mono (fun _ h => h) (fun _ _ => rfl) rfl (fun _ _ h => h)⟩
      · exact .inr hg }
theorem Hp.drawn (h : Hp cx I β hp nx w) (n : Nat) : Hp cx I β hp nx { w with drawn := n } :=
  { h with
    blk := fun i x hx => by
      rcases h.blk i x hx with ⟨b, C, h1, h2, h3, h4⟩ | hg
      · exact .inl ⟨b, C, h1, h2, h3, h4.mono (fun _ h => h) (fun _ _ => rfl) rfl (fun _ _ h => h)⟩
      · exact .inr hg }
theorem Hp.nx_le (h : Hp cx I β hp nx w) {N : Nat} (hn : nx ≤ N) : Hp cx I β hp N w :=
  { h with
    fresh := fun i hi => h.fresh i (by omega)
    blk := fun i x hx => by
      rcases h.blk i x hx with h1 | ⟨h1, h2, h3⟩
      · exact .inl h1
      · exact .inr ⟨h1, by omega, h3⟩ }
theorem Hp.drop (h : Hp cx I β hp nx w) (i : Nat) : Hp cx I β (hp.upd i none) nx w :=
  { h with
    blk := fun j x hx => by
      unfold HF.upd at hx
      split at hx
      · cases hx
      · exact h.blk j x hx
    inj := fun j k b C D x y hx hy => by
      unfold HF.upd at hx hy
      split at hx
      · cases hx
      · split at hy
        · cases hy
        · exact h.inj j k b C D x y hx hy }
theorem Hp.alloc (h : Hp cx I β hp nx w) {n C : Nat} {x : Blk} {o : Obj} (hn : β n = none) (hin : hp n = none) (hnx : n < nx)
    (hx : BlkOk (w.alloc o) I (fun i => if i = n then some (w.heap.size, C) else β i) w.heap.size C x) :
    Hp cx I (fun i => if i = n then some (w.heap.size, C) else β i) (hp.upd n (some x)) nx (w.alloc o) := by
  have hext : ∀ i y, β i = some y → (if i = n then some (w.heap.size, C) else β i) = some y := by
    intro i y hy
    by_cases e : i = n
    · subst e; rw [hn] at hy; cases hy
    · rw [if_neg e]; exact hy
  have hold : ∀ b, b < w.heap.size → (w.alloc o).heap[b]? = w.heap[b]? := by
    intro b hb
    show (w.heap.push o)[b]? = _
    rw [Array.getElem?_push]; rw [if_neg (by omega)]
  have hsz : (w.alloc o).heap.size = w.heap.size + 1 := by show (w.heap.push o).size = _; simp
  refine { os := h.os, tape := h.tape, output := h.output, size := by rw [hsz]; have := h.size; omega, frame := fun b hb hB => (hold b (by have := h.size; omega)).trans (h.frame b hb hB), ibase := h.ibase, iext := h.iext, ilt := fun b hb => by rw [hsz]; have := h.ilt b hb; omega, βbase := fun i y hy => hext i y (h.βbase i y hy), blt := ?_, fresh := ?_, blk := ?_, inj := ?_ }
  · intro i b D hb
    rw [hsz]
    by_cases e : i = n
    · rw [if_pos e] at hb; cases hb; omega
    · rw [if_neg e] at hb; have := h.blt i b D hb; omega
  · intro i hi
    rw [if_neg (by omega)]
    exact h.fresh i hi
  · intro i y hy
    unfold HF.upd at hy
    split at hy
    · rename_i e
      subst e
      cases hy
      exact .inl ⟨w.heap.size, C, by simp, .inr h.size, fun hI => by have := h.ilt _ hI; omega, hx⟩
    · rename_i e
      rcases h.blk i y hy with ⟨b, D, h1, h2, h3, h4⟩ | ⟨h1, h2, h3⟩
      · have hb := h.blt i b D h1
        exact .inl ⟨b, D, hext _ _ h1, h2, h3, h4.mono (fun _ h => h) (fun b hb => hold b (h.ilt b hb)) (hold b hb) hext⟩
      · exact .inr ⟨(if_neg e).trans h1, h2, h3⟩
  · intro i j b D E y z hy hz hi hj
    unfold HF.upd at hy hz
    by_cases e1 : i = n <;> by_cases e2 : j = n
    · rw [e1, e2]
    · rw [if_pos e1] at hi; rw [if_neg e2] at hj
      cases hi
      have := h.blt j _ _ hj
      omega
    · rw [if_neg e1] at hi; rw [if_pos e2] at hj
      cases hj
      have := h.blt i _ _ hi
      omega
    · rw [if_neg e1] at hi hy; rw [if_neg e2] at hj hz
      exact h.inj i j b D E y z hy hz hi hj
theorem Hp.ghost (h : Hp cx I β hp nx w) {n : Nat} {t : TypeId} {sz : Nat} {m : NV} {f : NV → List SV} (hn : β n = none) (hnx : n < nx) (hm : m.val = 0) :
    Hp cx I β (hp.upd n (some (.row t sz m f))) nx w :=
  { h with
    blk := fun j x hx => by
      unfold HF.upd at hx
      split at hx
      · rename_i e; subst e; cases hx
        exact .inr ⟨hn, hnx, _, _, _, _, rfl, hm⟩
      · exact h.blk j x hx
    inj := fun j k b C D x y hx hy hj hk => by
      unfold HF.upd at hx hy
      by_cases e1 : j = n
      · subst e1; rw [hn] at hj; cases hj
      · by_cases e2 : k = n
        · subst e2; rw [hn] at hk; cases hk
        · rw [if_neg e1] at hx; rw [if_neg e2] at hy
          exact h.inj j k b C D x y hx hy hj hk }
theorem Hp.turn (h : Hp cx I β hp nx w) {i b C : Nat} {x y : Blk} {w' : World} (hx : hp i = some x) (hi : β i = some (b, C))
    (hos : w'.os = w.os) (htape : w'.tape = w.tape) (hout : w'.output = w.output) (hsz : w'.heap.size = w.heap.size)
    (hw : ∀ b', b' ≠ b → w'.heap[b']? = w.heap[b']?) (hy : BlkOk w' I β b C y) : Hp cx I β (hp.upd i (some y)) nx w' := by
  obtain ⟨h2, h3, h4⟩ : (cx.B b ∨ cx.w0.heap.size ≤ b) ∧ ¬ I b ∧ BlkOk w I β b C x := by
    rcases h.blk i x hx with ⟨b2, C2, h1, h2⟩ | ⟨h1, _⟩
    · rw [hi] at h1; cases h1; exact h2
    · rw [hi] at h1; cases h1
  have hIw : ∀ b', I b' → w'.heap[b']? = w.heap[b']? := fun b' hb' => hw b' (fun e => h3 (e ▸ hb'))
  refine { os := hos.trans h.os, tape := htape.trans h.tape, output := hout.trans h.output, size := by rw [hsz]; exact h.size, frame := ?_, ibase := h.ibase, iext := h.iext, ilt := fun b hb => by rw [hsz]; exact h.ilt b hb, βbase := h.βbase, blt := fun i b C hb => by rw [hsz]; exact h.blt i b C hb, fresh := h.fresh, blk := ?_, inj := ?_ }
  · intro b' hb' hB
    rw [hw b' ?_]
    · exact h.frame b' hb' hB
    · rintro rfl
      rcases h2 with h2 | h2
      · exact hB h2
      · omega
  · intro j z hz
    unfold HF.upd at hz
    split at hz
    · rename_i e; subst e; cases hz
      exact .inl ⟨b, C, hi, h2, h3, hy⟩
    · rename_i e
      rcases h.blk j z hz with ⟨b3, C3, k1, k2, k3, k4⟩ | hg
      · refine .inl ⟨b3, C3, k1, k2, k3, k4.mono (fun _ h => h) hIw (hw b3 ?_) (fun _ _ h => h)⟩
        rintro rfl
        exact e (h.inj j i _ _ _ _ _ hz hx k1 hi)
      · exact .inr hg
  · intro j k b' D E y' z hy' hz hj hk
    unfold HF.upd at hy' hz
    split at hy'
    · rename_i e1
      split at hz
      · rename_i e2; rw [e1, e2]
      · rename_i e2
        subst e1
        exact h.inj _ _ _ _ _ _ _ hx hz hj hk
    · rename_i e1
      split at hz
      · rename_i e2
        subst e2
        exact h.inj _ _ _ _ _ _ _ hy' hx hj hk
      · exact h.inj _ _ _ _ _ _ _ hy' hz hj hk
theorem Hp.freeze (h : Hp cx I β hp nx w) {i b C : Nat} {x : Blk} (hx : hp i = some x) (hi : β i = some (b, C)) :
    Hp cx (fun c => I c ∨ c = b) β (hp.upd i none) nx w := by
  obtain ⟨h2, h3, h4⟩ : (cx.B b ∨ cx.w0.heap.size ≤ b) ∧ ¬ I b ∧ BlkOk w I β b C x := by
    rcases h.blk i x hx with ⟨b2, C2, h1, h2⟩ | ⟨h1, _⟩
    · rw [hi] at h1; cases h1; exact h2
    · rw [hi] at h1; cases h1
  refine { os := h.os, tape := h.tape, output := h.output, size := h.size, frame := h.frame, ibase := fun c hc => .inl (h.ibase c hc), iext := ?_, ilt := ?_, βbase := h.βbase, blt := h.blt, fresh := h.fresh, blk := ?_, inj := ?_ }
  · rintro c (hc | rfl)
    · exact h.iext c hc
    · exact .inr h2
  · rintro c (hc | rfl)
    · exact h.ilt c hc
    · exact h.blt _ _ _ hi
  · intro j z hz
    unfold HF.upd at hz
    split at hz
    · cases hz
    · rename_i e
      rcases h.blk j z hz with ⟨b3, C3, k1, k2, k3, k4⟩ | hg
      · refine .inl ⟨b3, C3, k1, k2, ?_, k4.mono (fun _ h => .inl h) (fun _ _ => rfl) rfl (fun _ _ h => h)⟩
        rintro (hc | rfl)
        · exact k3 hc
        · exact e (h.inj j i _ _ _ _ _ hz hx k1 hi)
      · exact .inr hg
  · intro j k b' D E y' z hy' hz hj hk
    unfold HF.upd at hy' hz
    split at hy'
    · cases hy'
    · split at hz
      · cases hz
      · exact h.inj _ _ _ _ _ _ _ hy' hz hj hk
end
theorem Rep.cellsMono {w w' : World} {I : Nat → Prop} {β : Vln} {s : SV} {v : Value} (hc : ∀ a v, w.cell? a = some v → w'.cell? a = some v) (h : Rep w I β s v) : Rep w' I β s v := by
  induction h with
  | any v => exact .any v
  | lit k n => exact .lit k n
  | int k n => exact .int k n
  | bl b => exact .bl b
  | bs b => exact .bs b
  | con v => exact .con v
  | nilp => exact .nilp
  | nils A => exact .nils A
  | str s => exact .str s
  | ptr h => exact .ptr h
  | sl h hc hl ho => exact .sl h hc hl ho
  | sl0 hl A => exact .sl0 hl A
  | pe h => exact .pe h
  | mp h => exact .mp h
  | ro0 sz n hn f A c => exact .ro0 sz n hn f A c
  | ro hb hc' hlen u h1 hcell hrep ih => exact .ro hb hc' hlen u h1 (fun i j hi hj => hc _ _ (hcell i j hi hj)) (fun e j he hj => ih e j he hj)
  | rp hb u hcell hrep ih => exact .rp hb u (fun j hj => hc _ _ (hcell j hj)) (fun j hj => ih j hj)
  | ra hb hlen u hcell hrep ih => exact .ra hb hlen u (fun i j hi hj => hc _ _ (hcell i j hi hj)) (fun e j he hj => ih e j he hj)
  | agg hl h ih => exact .agg hl fun j hj => ih j hj
  | tup hl h ih => exact .tup hl fun j hj => ih j hj
  | fn hl h ih => exact .fn hl fun j hj => ih j hj
theorem BlkOk.cellsMono {w w' : World} {I : Nat → Prop} {β : Vln} {b C : Nat} {x : Blk} (hc : ∀ a v, w.cell? a = some v → w'.cell? a = some v) (hb : w'.heap[b]? = w.heap[b]?) (h : BlkOk w I β b C x) : BlkOk w' I β b C x := by
  cases x with
  | cells t cs =>
    obtain ⟨vs, fz, h1, h2, h3, h4⟩ := h
    exact ⟨vs, fz, hb.trans h1, h2, h3, fun j hj => (h4 j hj).cellsMono hc⟩
  | row t sz n f =>
    obtain ⟨vs, fz, h1, h2, h3, h4, h5, h7, h6⟩ := h
    exact ⟨vs, fz, hb.trans h1, h2, h3, h4, h5, h7, fun e j he hj => (h6 e j he hj).cellsMono hc⟩
  | rowc t sz n bb cp f =>
    obtain ⟨h0, vs, fz, h1, h2, h3, h4, h5, h7, h6⟩ := h
    exact ⟨h0, vs, fz, hb.trans h1, h2, h3, h4, h5, h7, fun e j he hj => (h6 e j he hj).cellsMono hc⟩
  | obj o => exact hb.trans h
  | wm sz L =>
    obtain ⟨es, c, h1, h2⟩ := h
    exact ⟨es, c, hb.trans h1, h2⟩
  | num mb o => exact ⟨h.1, hb.trans h.2⟩
  | lp l ps x c tms s pe =>
    obtain ⟨h0, tv, fn, D, h1, h2, h3⟩ := h
    exact ⟨h0, tv, fn, D, hb.trans h1, h2, fun j hj => (h3 j hj).cellsMono hc⟩
theorem Hp.aside {cx : Cx} {I : Nat → Prop} {β : Vln} {hp : HF} {nx : Nat} {w w' : World} {D : Nat} (h : Hp cx I β hp nx w) (hI : I D) (hD : cx.w0.heap.size ≤ D)
    (hos : w'.os = w.os) (htape : w'.tape = w.tape) (hout : w'.output = w.output) (hsz : w'.heap.size = w.heap.size) (hw : ∀ b, b ≠ D → w'.heap[b]? = w.heap[b]?) (hc : ∀ a v, w.cell? a = some v → w'.cell? a = some v) : Hp cx I β hp nx w' :=
  { h with
    os := hos.trans h.os
    tape := htape.trans h.tape
    output := hout.trans h.output
    size := by rw [hsz]; exact h.size
    frame := fun b hb hB => by rw [hw b (by omega)]; exact h.frame b hb hB
    ilt := fun b hb => by rw [hsz]; exact h.ilt b hb
    blt := fun i b C hb => by rw [hsz]; exact h.blt i b C hb
    blk := fun i x hx => by
      rcases h.blk i x hx with ⟨b, C, h1, h2, h3, h4⟩ | hg
      · exact .inl ⟨b, C, h1, h2, h3, h4.cellsMono hc (hw b (fun e => h3 (e ▸ hI)))⟩
      · exact .inr hg }
end Go.Eng
/-
  The symbolic executor: tables of types, the arithmetic of the leaves, one operation on symbolic values.
-/
namespace Go.Eng
inductive Shape where
  | int (k : IntKind)
  | bool
  | str
  | slice (e : Nat)
  | ptr (e : Nat)
  | struct (fs : List (Nat × Nat))
  | array (n e : Nat)
  | map (k e : Nat)
  | other
structure TI where
  size : Nat
  bytes : Nat
  zero : List SV
  shape : Shape
def svOfV : Value → SV
  | .int k n => .lit k n
  | .bool b => .bl b
  | .pointer none => .nilp
  | .slice none 0 0 => .nils
  | .string s => .str s.data.toList
  | v => .con v
theorem svOfV_rep (w : World) (I : Nat → Prop) (β : Vln) (v : Value) : Rep w I β (svOfV v) v := by
  unfold svOfV
  split <;> first | constructor | exact Rep.str _
def shapeOf : TypeDesc → Shape
  | .int k => .int k
  | .bool => .bool
  | .string => .str
  | .slice e => .slice e
  | .pointer e => .ptr e
  | .struct fs => .struct (fs.toList.map fun f => (f.offset, f.type))
  | .array n e => .array n e
  | .map k e => .map k e
  | _ => .other
def tiOf (P : Program) (t : Nat) : Option TI :=
  match P.info? t, P.underlying t with
  | some i, some d => match i.zero with
    | some z => some ⟨i.size, i.bytes, z.cells.toList.map svOfV, shapeOf d⟩
    | none => none
  | _, _ => none
abbrev Tab := List (Nat × TI)
def Tab.get : Tab → Nat → Option TI
  | [], _ => none
  | (u, x) :: r, t => if u = t then some x else Tab.get r t
def Tab.Ok (P : Program) (T : Tab) : Prop := ∀ p ∈ T, tiOf P p.1 = some p.2
theorem Tab.Ok.get {P : Program} {T : Tab} (h : T.Ok P) {t : Nat} {x : TI} (hx : T.get t = some x) : tiOf P t = some x := by
  induction T with
  | nil => cases hx
  | cons p r ih =>
    obtain ⟨u, y⟩ := p
    unfold Tab.get at hx
    split at hx
    · rename_i e; subst e; cases hx; exact h _ (List.mem_cons_self)
    · exact ih (fun q hq => h q (List.mem_cons_of_mem _ hq)) hx
theorem tiOf_spec {P : Program} {t : Nat} {x : TI} (h : tiOf P t = some x) : ∃ (i : TypeInfo) (d : TypeDesc) (z : Value), P.info? t = some i ∧ P.underlying t = some d ∧ i.zero = some z ∧
    i.size = x.size ∧ i.bytes = x.bytes ∧ x.zero = z.cells.toList.map svOfV ∧ x.shape = shapeOf d := by
  unfold tiOf at h
  split at h
  · rename_i i d hi hd
    split at h
    · rename_i z hz
      cases h
      exact ⟨i, d, z, hi, hd, hz, rfl, rfl, rfl, rfl⟩
    · cases h
  · cases h
structure Ar where
  add : Int → Int → Int
  sub : Int → Int → Int
  mul : Int → Int → Int
  quo : Int → Int → Int
  rem : Int → Int → Int
  w : BinOp → IntKind → Int → Int → Int
  shl : IntKind → Int → Int → Int
  shr : IntKind → Int → Int → Int
  xorm : IntKind → Int → Int
  conv : IntKind → Int → Int
  eq : Int → Int → Bool
  ne : Int → Int → Bool
  lt : Int → Int → Bool
  le : Int → Int → Bool
  gt : Int → Int → Bool
  ge : Int → Int → Bool
  inR : IntKind → Int → Prop
  ne0 : Int → Prop
  nn : Int → Prop
  idx : Int → Nat → Prop
  nat : Int → Nat
  i2 : Nat → Int
  leN : Nat → Nat → Prop
  eqN : Nat → Nat → Prop
  addN : Nat → Nat → Nat
  subN : Nat → Nat → Nat
  mulN : Nat → Nat → Nat
  minN : Nat → Nat → Nat
  beqN : Nat → Nat → Bool
  ltN : Nat → Nat → Bool
  not : Bool → Bool
  eqB : Bool → Bool → Bool
  iteI : Bool → Int → Int → Int
  iteB : Bool → Bool → Bool → Bool
  iteN : Bool → Nat → Nat → Nat
  max : Int → Int → Int
  min : Int → Int → Int
  bytes : Nat → (Nat → Int) → List UInt8
  eqL : List UInt8 → List UInt8 → Bool
  sel : Nat → List Int → Int
def kEq (a b : IntKind) : Bool :=
  match a, b with
  | .i8, .i8 | .i16, .i16 | .i32, .i32 | .i64, .i64 | .u8, .u8 | .u16, .u16 | .u32, .u32 | .u64, .u64 => true
  | _, _ => false
theorem kEq_spec {a b : IntKind} (h : kEq a b = true) : a = b := by
  cases a <;> cases b <;> first | rfl | cases h
def inRange (k : IntKind) (n : Int) : Prop := k.min ≤ n ∧ n ≤ k.max
def wOp (op : BinOp) (k : IntKind) (a b : Int) : Int :=
  match op with
  | .add => k.wrap (a + b)
  | .sub => k.wrap (a - b)
  | .mul => k.wrap (a * b)
  | .and => k.wrap ((BitVec.ofInt k.bits a &&& BitVec.ofInt k.bits b).toNat : Int)
  | .or => k.wrap ((BitVec.ofInt k.bits a ||| BitVec.ofInt k.bits b).toNat : Int)
  | .xor => k.wrap ((BitVec.ofInt k.bits a ^^^ BitVec.ofInt k.bits b).toNat : Int)
  | .andNot => k.wrap ((BitVec.ofInt k.bits a &&& ~~~BitVec.ofInt k.bits b).toNat : Int)
  | .quo => k.wrap (a.tdiv b)
  | .rem => a.tmod b
  | _ => 0
def Ar.real : Ar where
  add := (· + ·)
  sub := (· - ·)
  mul := (· * ·)
  quo := Int.tdiv
  rem := Int.tmod
  w := wOp
  shl k a b := k.wrap (a * 2 ^ (Nat.min b.toNat k.bits))
  shr k a b := a.fdiv (2 ^ (Nat.min b.toNat k.bits))
  xorm k a := k.wrap ((BitVec.ofInt k.bits (if k.signed then -1 else k.max) ^^^ BitVec.ofInt k.bits a).toNat : Int)
  conv k n := k.wrap n
  eq a b := a == b
  ne a b := a != b
  lt a b := decide (a < b)
  le a b := decide (a ≤ b)
  gt a b := decide (a > b)
  ge a b := decide (a ≥ b)
  inR := inRange
  ne0 a := a ≠ 0
  nn a := 0 ≤ a
  idx i n := 0 ≤ i ∧ i.toNat < n
  nat := Int.toNat
  i2 n := (n : Int)
  leN a b := a ≤ b
  eqN a b := a = b
  addN := (· + ·)
  subN := (· - ·)
  mulN := (· * ·)
  minN := Nat.min
  beqN a b := a == b
  ltN a b := decide (a < b)
  not b := !b
  eqB a b := a == b
  iteI c a b := if c then a else b
  iteB c a b := if c then a else b
  iteN c a b := if c then a else b
  max a b := if b > a then b else a
  min a b := if b < a then b else a
  bytes n f := (List.range n).map fun i => UInt8.ofNat (f i).toNat
  eqL a b := a == b
  sel k l := l.getD k 0
def isOne : SV → Bool
  | .any | .agg _ | .tup _ => false
  | .con (.agg _) | .con (.tuple _) => false
  | _ => true
theorem isOne_spec {w : World} {I : Nat → Prop} {β : Vln} {s : SV} {v : Value} (h : Rep w I β s v) (h1 : isOne s = true) : v.oneCell' = true ∧ v.cells = #[v] := by
  cases h <;> try exact ⟨rfl, rfl⟩
  all_goals first | (simp [isOne] at h1; done) | (cases v <;> first | exact ⟨rfl, rfl⟩ | (simp [isOne] at h1; done))
def cellsSV (s : SV) : Option (List SV) :=
  match s with
  | .agg cs => if cs.all isOne then some cs else none
  | s => if isOne s then some [s] else none
theorem cellsSV_spec {w : World} {I : Nat → Prop} {β : Vln} {s : SV} {v : Value} {cs : List SV} (h : Rep w I β s v) (hc : cellsSV s = some cs) :
    v.cells.size = cs.length ∧ (∀ j, j < cs.length → Rep w I β (cs.getD j .any) (v.cells.getD j undef)) ∧ ∀ x ∈ v.cells.toList, x.oneCell' = true := by
  unfold cellsSV at hc
  split at hc
  · split at hc
    · rename_i hall
      cases hc
      cases h with
      | agg hl hr =>
        refine ⟨hl, hr, ?_⟩
        intro x hx
        obtain ⟨j, hj, rfl⟩ := List.getElem_of_mem hx
        simp only [Value.cells, Array.length_toList] at hj
        have hr' := hr j (by omega)
        have hd : cs.getD j .any = cs[j]'(by omega) := by simp [List.getD_eq_getElem?_getD, List.getElem?_eq_getElem (show j < cs.length by omega)]
        have h1 : isOne (cs.getD j .any) = true := by rw [hd]; exact List.all_eq_true.1 hall _ (List.getElem_mem _)
        have := (isOne_spec hr' h1).1
        simpa [Value.cells, Array.getD_eq_getD_getElem?, Array.getElem?_eq_getElem (show j < _ by omega)] using this
    · cases hc
  · split at hc
    · rename_i h1
      cases hc
      obtain ⟨h2, h3⟩ := isOne_spec h h1
      rw [h3]
      refine ⟨rfl, ?_, by simp [h2]⟩
      intro j hj
      obtain rfl : j = 0 := by simp at hj; omega
      simpa using h
    · cases hc
end Go.Eng
/-
  The symbolic executor: operations that touch no own memory.
-/
namespace Go.Eng
def addNV1 (A : Ar) (a b : NV) : NV :=
  match a, b with
  | .l x, .l y => .l (x + y)
  | a, b => .s (A.addN a.val b.val)
def addNV (A : Ar) (a b : NV) : NV :=
  match a with
  | .l x => match x with
    | 0 => b
    | x => addNV1 A (.l x) b
  | a => addNV1 A a b
def subNV (A : Ar) (a b : NV) : NV :=
  match a, b with
  | .l x, .l y => .l (x - y)
  | a, b => .s (A.subN a.val b.val)
theorem addNV_val (a b : NV) : (addNV Ar.real a b).val = a.val + b.val := by
  have h1 : ∀ a b : NV, (addNV1 Ar.real a b).val = a.val + b.val := by
    intro a b; unfold addNV1; split <;> rfl
  unfold addNV
  split
  · split
    · simp [NV.val]
    · exact h1 _ _
  · exact h1 _ _
theorem subNV_val (a b : NV) : (subNV Ar.real a b).val = a.val - b.val := by
  unfold subNV; split <;> rfl
def ixSV (A : Ar) (s : SV) : Option (Int × NV) :=
  match s with
  | .lit _ n => some (n, .l n.toNat)
  | .int _ n => some (n, .s (A.nat n))
  | _ => none
def lenSV (A : Ar) (n : NV) : SV :=
  match n with
  | .l n => .lit .i64 n
  | .s n => .int .i64 (A.i2 n)
def intOfSV (s : SV) : Option (IntKind × Int) :=
  match s with
  | .lit k n => some (k, n)
  | .int k n => some (k, n)
  | _ => none
theorem intOfSV_spec {w : World} {I : Nat → Prop} {β : Vln} {s : SV} {v : Value} {k : IntKind} {n : Int} (h : Rep w I β s v) (hi : intOfSV s = some (k, n)) : v = .int k n := by
  cases h <;> simp [intOfSV] at hi <;> obtain ⟨rfl, rfl⟩ := hi <;> rfl
def boolOfSV (s : SV) : Option Bool :=
  match s with
  | .bl b => some b
  | .bs b => some b
  | _ => none
theorem boolOfSV_spec {w : World} {I : Nat → Prop} {β : Vln} {s : SV} {v : Value} {b : Bool} (h : Rep w I β s v) (hi : boolOfSV s = some b) : v = .bool b := by
  cases h <;> simp [boolOfSV] at hi <;> subst hi <;> rfl
abbrev PR := Option (Prop × SV)
def cmpLit (op : BinOp) (a b : Int) : Option Bool :=
  match op with
  | .eql => some (a == b)
  | .neq => some (a != b)
  | .lss => some (decide (a < b))
  | .leq => some (decide (a ≤ b))
  | .gtr => some (decide (a > b))
  | .geq => some (decide (a ≥ b))
  | _ => none
def binLit (op : BinOp) (k : IntKind) (a b : Int) : PR :=
  match cmpLit op a b with
  | some c => some (True, .bl c)
  | none => match op with
    | .add | .sub | .mul | .and | .or | .xor | .andNot => some (True, .lit k (wOp op k a b))
    | .quo | .rem => match b with
      | .ofNat 0 => none
      | _ => some (True, .lit k (wOp op k a b))
    | _ => none
def binSym (A : Ar) (op : BinOp) (k : IntKind) (a b : Int) : PR :=
  match op with
  | .eql => some (True, .bs (A.eq a b))
  | .neq => some (True, .bs (A.ne a b))
  | .lss => some (True, .bs (A.lt a b))
  | .leq => some (True, .bs (A.le a b))
  | .gtr => some (True, .bs (A.gt a b))
  | .geq => some (True, .bs (A.ge a b))
  | .add => match k with
    | .i64 => some (A.inR .i64 (A.add a b), .int .i64 (A.add a b))
    | k => some (True, .int k (A.w .add k a b))
  | .sub => match k with
    | .i64 => some (A.inR .i64 (A.sub a b), .int .i64 (A.sub a b))
    | k => some (True, .int k (A.w .sub k a b))
  | .mul => match k with
    | .i64 => some (A.inR .i64 (A.mul a b), .int .i64 (A.mul a b))
    | k => some (True, .int k (A.w .mul k a b))
  | .quo => match k with
    | .i64 => some (A.ne0 b ∧ A.inR .i64 (A.quo a b), .int .i64 (A.quo a b))
    | k => some (A.ne0 b, .int k (A.w .quo k a b))
  | .rem => some (A.ne0 b, .int k (A.rem a b))
  | .and => some (True, .int k (A.w .and k a b))
  | .or => some (True, .int k (A.w .or k a b))
  | .xor => some (True, .int k (A.w .xor k a b))
  | .andNot => some (True, .int k (A.w .andNot k a b))
  | _ => none
def shiftSV (A : Ar) (op : BinOp) (x y : SV) : PR :=
  match x, y with
  | .lit k a, .lit _ b => match b, op with
    | .ofNat m, .shl => some (True, .lit k (k.wrap (a * 2 ^ (Nat.min m k.bits))))
    | .ofNat m, .shr => some (True, .lit k (a.fdiv (2 ^ (Nat.min m k.bits))))
    | _, _ => none
  | x, y => match intOfSV x, intOfSV y with
    | some (k, a), some (_, b) => match op with
      | .shl => some (A.nn b, .int k (A.shl k a b))
      | .shr => some (A.nn b, .int k (A.shr k a b))
      | _ => none
    | _, _ => none
def binInt (A : Ar) (op : BinOp) (x y : SV) : PR :=
  match x, y with
  | .lit k a, .lit k' b => if k = k' then binLit op k a b else none
  | x, y => match intOfSV x, intOfSV y with
    | some (k, a), some (k', b) => if k = k' then binSym A op k a b else none
    | _, _ => none
def eqPtr (x y : SV) : Option Bool :=
  match x, y with
  | .nilp, .nilp => some true
  | .nilp, .ptr _ _ => some false
  | .ptr _ _, .nilp => some false
  | .nilp, .rp _ => some false
  | .rp _, .nilp => some false
  | _, _ => none
def eqSV (A : Ar) (sh : Shape) (x y : SV) : Option SV :=
  match sh with
  | .bool => match x, y with
    | .bl a, .bl b => some (.bl (a == b))
    | x, y => match boolOfSV x, boolOfSV y with
      | some a, some b => some (.bs (A.eqB a b))
      | _, _ => none
  | .ptr _ => (eqPtr x y).map .bl
  | .str => match x, y with
    | .str a, .str b => some (.bs (A.eqL a b))
    | _, _ => none
  | _ => none
def notSV (A : Ar) (x : SV) : Option SV :=
  match x with
  | .bl b => some (.bl (!b))
  | .bs b => some (.bs (A.not b))
  | _ => none
def binSV (A : Ar) (sh : Shape) (op : BinOp) (x y : SV) : PR :=
  match op with
  | .shl => shiftSV A .shl x y
  | .shr => shiftSV A .shr x y
  | op => match binInt A op x y with
    | some r => some r
    | none => match op with
      | .eql => (eqSV A sh x y).map fun b => (True, b)
      | .neq => ((eqSV A sh x y).bind (notSV A)).map fun b => (True, b)
      | _ => none
section
variable {P : Program} {w : World} {I : Nat → Prop} {β : Vln}
theorem run_bin_cmp (t : TypeId) {op : BinOp} {k : IntKind} {a b : Int} {c : Bool} (h : cmpLit op a b = some c) : (binOp op t (.int k a) (.int k b)).run P w = .ok (.bool c) w := by
  cases op <;> simp [cmpLit] at h <;> subst h <;> simp [binOp, Op.intCmp]
theorem run_bin_arith (t : TypeId) {op : BinOp} {k : IntKind} {a b : Int} (h : op = .add ∨ op = .sub ∨ op = .mul ∨ op = .and ∨ op = .or ∨ op = .xor ∨ op = .andNot) :
    (binOp op t (.int k a) (.int k b)).run P w = .ok (.int k (wOp op k a b)) w := by
  rcases h with rfl | rfl | rfl | rfl | rfl | rfl | rfl <;> simp [binOp, Op.intArith, Op.intBits, wOp]
theorem run_bin_div (t : TypeId) {op : BinOp} {k : IntKind} {a b : Int} (h : op = .quo ∨ op = .rem) (hb : b ≠ 0) :
    (binOp op t (.int k a) (.int k b)).run P w = .ok (.int k (wOp op k a b)) w := by
  rcases h with rfl | rfl <;> simp [binOp, Op.intDiv, wOp, hb]
theorem binLit_ok (t : TypeId) {op : BinOp} {k : IntKind} {a b : Int} {p : Prop} {r : SV} (h : binLit op k a b = some (p, r)) :
    ∃ v, (binOp op t (.int k a) (.int k b)).run P w = .ok v w ∧ Rep w I β r v := by
  unfold binLit at h
  split at h
  · rename_i c hc
    cases h
    exact ⟨_, run_bin_cmp t hc, .bl c⟩
  · split at h
    all_goals try (cases h; exact ⟨_, run_bin_arith t (by simp), .lit _ _⟩)
    · split at h
      · cases h
      · rename_i hb
        cases h
        exact ⟨_, run_bin_div t (by simp) (fun e => hb (by rw [e]; rfl)), .lit _ _⟩
    · split at h
      · cases h
      · rename_i hb
        cases h
        exact ⟨_, run_bin_div t (by simp) (fun e => hb (by rw [e]; rfl)), .lit _ _⟩
    · cases h
theorem inRange_wrap {k : IntKind} {n : Int} (hk : k = .i64) (h : inRange k n) : k.wrap n = n := by
  subst hk
  unfold inRange at h
  simp [IntKind.min, IntKind.max, IntKind.bits, IntKind.signed] at h
  rw [IntKind.wrap_i64]
  omega
theorem binSym_ok (t : TypeId) {op : BinOp} {k : IntKind} {a b : Int} {p : Prop} {r : SV} (h : binSym Ar.real op k a b = some (p, r)) (hp : p) :
    ∃ v, (binOp op t (.int k a) (.int k b)).run P w = .ok v w ∧ Rep w I β r v := by
  have cmp : ∀ c, cmpLit op a b = some c → r = .bs c → ∃ v, (binOp op t (.int k a) (.int k b)).run P w = .ok v w ∧ Rep w I β r v :=
    fun c hc hr => ⟨_, run_bin_cmp t hc, hr ▸ .bs c⟩
  have ari : ∀ n, (op = .add ∨ op = .sub ∨ op = .mul ∨ op = .and ∨ op = .or ∨ op = .xor ∨ op = .andNot) → r = .int k n → wOp op k a b = n → ∃ v, (binOp op t (.int k a) (.int k b)).run P w = .ok v w ∧ Rep w I β r v :=
    fun n hc hr hn => ⟨_, run_bin_arith t hc, by rw [hr, hn]; exact .int _ _⟩
  have dv : ∀ n, (op = .quo ∨ op = .rem) → b ≠ 0 → r = .int k n → wOp op k a b = n → ∃ v, (binOp op t (.int k a) (.int k b)).run P w = .ok v w ∧ Rep w I β r v :=
    fun n hc hb hr hn => ⟨_, run_bin_div t hc hb, by rw [hr, hn]; exact .int _ _⟩
  cases op <;> simp only [binSym] at h
  case add =>
    split at h <;> cases h
    · exact ari _ (by simp) rfl (inRange_wrap rfl hp)
    · exact ari _ (by simp) rfl rfl
  case sub =>
    split at h <;> cases h
    · exact ari _ (by simp) rfl (inRange_wrap rfl hp)
    · exact ari _ (by simp) rfl rfl
  case mul =>
    split at h <;> cases h
    · exact ari _ (by simp) rfl (inRange_wrap rfl hp)
    · exact ari _ (by simp) rfl rfl
  case quo =>
    split at h <;> cases h
    · exact dv _ (by simp) hp.1 rfl (inRange_wrap rfl hp.2)
    · exact dv _ (by simp) hp rfl rfl
  case rem => cases h; exact dv _ (by simp) hp rfl rfl
  case and => cases h; exact ari _ (by simp) rfl rfl
  case or => cases h; exact ari _ (by simp) rfl rfl
  case xor => cases h; exact ari _ (by simp) rfl rfl
  case andNot => cases h; exact ari _ (by simp) rfl rfl
  case eql => cases h; exact cmp _ rfl rfl
  case neq => cases h; exact cmp _ rfl rfl
  case lss => cases h; exact cmp _ rfl rfl
  case leq => cases h; exact cmp _ rfl rfl
  case gtr => cases h; exact cmp _ rfl rfl
  case geq => cases h; exact cmp _ rfl rfl
  all_goals cases h
theorem binInt_ok (t : TypeId) {op : BinOp} {x y : SV} {u v : Value} {p : Prop} {r : SV} (h : binInt Ar.real op x y = some (p, r)) (hp : p) (hx : Rep w I β x u) (hy : Rep w I β y v) :
    ∃ z, (binOp op t u v).run P w = .ok z w ∧ Rep w I β r z := by
  unfold binInt at h
  split at h
  · split at h
    · rename_i e
      subst e
      cases hx; cases hy
      exact binLit_ok t h
    · cases h
  · split at h
    · rename_i hi hj
      split at h
      · rename_i e
        subst e
        obtain rfl := intOfSV_spec hx hi
        obtain rfl := intOfSV_spec hy hj
        exact binSym_ok t h hp
      · cases h
    · cases h
theorem run_bin_shl (t : TypeId) {k k' : IntKind} {a b : Int} (h : 0 ≤ b) : (binOp .shl t (.int k a) (.int k' b)).run P w = .ok (.int k (k.wrap (a * 2 ^ (Nat.min b.toNat k.bits)))) w := by
  simp only [binOp, Op.shift]
  rw [if_neg (by omega)]
  rfl
theorem run_bin_shr (t : TypeId) {k k' : IntKind} {a b : Int} (h : 0 ≤ b) : (binOp .shr t (.int k a) (.int k' b)).run P w = .ok (.int k (a.fdiv (2 ^ (Nat.min b.toNat k.bits)))) w := by
  simp only [binOp, Op.shift]
  rw [if_neg (by omega)]
  rfl
theorem shiftSV_ok (t : TypeId) {op : BinOp} {x y : SV} {u v : Value} {p : Prop} {r : SV} (h : shiftSV Ar.real op x y = some (p, r)) (hp : p) (hx : Rep w I β x u) (hy : Rep w I β y v) :
    ∃ z, (binOp op t u v).run P w = .ok z w ∧ Rep w I β r z := by
  unfold shiftSV at h
  split at h
  · cases hx; cases hy
    split at h
    · cases h
      exact ⟨_, run_bin_shl t (Int.natCast_nonneg _), .lit _ _⟩
    · cases h
      exact ⟨_, run_bin_shr t (Int.natCast_nonneg _), .lit _ _⟩
    · cases h
  · split at h
    · rename_i hi hj
      obtain rfl := intOfSV_spec hx hi
      obtain rfl := intOfSV_spec hy hj
      split at h
      · cases h
        exact ⟨_, run_bin_shl t hp, .int _ _⟩
      · cases h
        exact ⟨_, run_bin_shr t hp, .int _ _⟩
      · cases h
    · cases h
theorem notSV_ok {x r : SV} {b : Bool} (h : notSV Ar.real x = some r) (hx : Rep w I β x (.bool b)) : Rep w I β r (.bool (!b)) := by
  unfold notSV at h
  split at h <;> cases h <;> cases hx
  · exact .bl _
  · exact .bs _
theorem equalIn_bool {t : TypeId} (hd : P.underlying t = some .bool) (d : Nat) (a b : Bool) : (Op.equalIn (d + 1) t (.bool a) (.bool b)).run P w = .ok (a == b) w := by
  simp [Op.equalIn, run_underlying hd]
theorem equalIn_nil_ptr {t e : TypeId} (hd : P.underlying t = some (.pointer e)) (d : Nat) (b : Option Addr) : (Op.equalIn (d + 1) t (.pointer none) (.pointer b)).run P w = .ok b.isNone w := by
  simp [Op.equalIn, run_underlying hd]
theorem equalIn_ptr_nil {t e : TypeId} (hd : P.underlying t = some (.pointer e)) (d : Nat) (b : Addr) : (Op.equalIn (d + 1) t (.pointer (some b)) (.pointer none)).run P w = .ok false w := by
  simp [Op.equalIn, run_underlying hd]
theorem eq_of_equal {t : TypeId} {u v : Value} {b : Bool} (h : ∀ d, (Op.equalIn (d + 1) t u v).run P w = .ok b w)
    (h1 : binOp .eql t u v = do pure (.bool (← Op.equal t u v))) (h2 : binOp .neq t u v = do pure (.bool (!(← Op.equal t u v)))) :
    (binOp .eql t u v).run P w = .ok (.bool b) w ∧ (binOp .neq t u v).run P w = .ok (.bool (!b)) w := by
  have h' : (Op.equal t u v).run P w = .ok b w := h 9999
  rw [h1, h2]
  simp only [Sem.run_bind, h', Result.andThen_ok, Sem.run_pure, and_self]
theorem eqPtr_ok {x y : SV} {u v : Value} {b : Bool} {t e : TypeId} (hd : P.underlying t = some (.pointer e)) (h : eqPtr x y = some b) (hx : Rep w I β x u) (hy : Rep w I β y v) :
    (binOp .eql t u v).run P w = .ok (.bool b) w ∧ (binOp .neq t u v).run P w = .ok (.bool (!b)) w := by
  unfold eqPtr at h
  split at h <;> cases h <;> cases hx <;> cases hy <;> refine eq_of_equal (fun d => ?_) rfl rfl
  · exact equalIn_nil_ptr hd d none
  · exact equalIn_nil_ptr hd d _
  · exact equalIn_ptr_nil hd d _
  · exact equalIn_nil_ptr hd d _
  · exact equalIn_ptr_nil hd d _
theorem eqSV_ok {sh : Shape} {x y : SV} {u v : Value} {r : SV} {d : TypeDesc} {t : TypeId} (hd : P.underlying t = some d) (hsh : sh = shapeOf d)
    (h : eqSV Ar.real sh x y = some r) (hx : Rep w I β x u) (hy : Rep w I β y v) :
    ∃ z, (binOp .eql t u v).run P w = .ok (.bool z) w ∧ (binOp .neq t u v).run P w = .ok (.bool (!z)) w ∧ Rep w I β r (.bool z) := by
  unfold eqSV at h
  split at h
  · have : d = .bool := by cases d <;> simp [shapeOf] at hsh; rfl
    subst this
    split at h
    · cases h; cases hx; cases hy
      obtain ⟨h1, h2⟩ := eq_of_equal (P := P) (w := w) (t := t) (fun d => equalIn_bool hd d _ _) rfl rfl
      exact ⟨_, h1, h2, .bl _⟩
    · split at h
      · rename_i hi hj
        obtain rfl := boolOfSV_spec hx hi
        obtain rfl := boolOfSV_spec hy hj
        cases h
        obtain ⟨h1, h2⟩ := eq_of_equal (P := P) (w := w) (t := t) (fun d => equalIn_bool hd d _ _) rfl rfl
        exact ⟨_, h1, h2, .bs _⟩
      · cases h
  · have : ∃ e, d = .pointer e := by cases d <;> simp [shapeOf] at hsh; exact ⟨_, rfl⟩
    obtain ⟨e, rfl⟩ := this
    cases hb : eqPtr x y with
    | none => rw [hb] at h; cases h
    | some b =>
      rw [hb] at h
      cases h
      obtain ⟨h1, h2⟩ := eqPtr_ok hd hb hx hy
      exact ⟨b, h1, h2, .bl b⟩
  · split at h
    · rename_i a b
      cases h; cases hx; cases hy
      refine ⟨a == b, ?_, ?_, .bs _⟩ <;> simp [binOp, Op.stringOp]
    · cases h
  · cases h
def eqSafe (s : SV) : Bool :=
  match s with
  | .any | .agg _ | .con _ => false
  | _ => true
theorem eqGuard_ok {op : BinOp} {t : TypeId} {X Y : Operand} {x : SV} {u v : Value} (hx : Rep w I β x u) (h1 : eqSafe x = true) :
    (eqGuard op t X Y u v).run P w = .ok () w := by
  cases hx <;> first | (simp [eqSafe] at h1; done) | (cases op <;> rfl)
end
end Go.Eng
/-
  The symbolic executor: choices between values; pointers, slices, conversions, what is read of memory that never changes.
-/
namespace Go.Eng
theorem mk_getD {α : Type} (l : List α) (f : Nat → α) (n j : Nat) (d : α) (h : j < n) : ((List.range n).map f).getD j d = f j := by
  simp [List.getD_eq_getElem?_getD, h]
def lenOfRo (s : SV) (sz : Nat) : Option (NV × (NV → List SV)) :=
  match s with
  | .nils => some (.l 0, fun _ => List.replicate sz .any)
  | .ro sz' n f => if sz' = sz then some (n, f) else none
  | _ => none
def mergeSV (A : Ar) : Nat → Bool → SV → SV → SV
  | 0, _, _, _ => .any
  | d + 1, b, x, y =>
    match intOfSV x, intOfSV y with
    | some (k, m), some (k', n) => match kEq k k' with
      | true => .int k (A.iteI b m n)
      | false => .any
    | _, _ => match boolOfSV x, boolOfSV y with
      | some m, some n => .bs (A.iteB b m n)
      | _, _ => match x, y with
        | .nilp, .nilp => .nilp
        | .nils, .nils => .nils
        | .ro sz n f, y => match lenOfRo y sz with
          | some (m, g) => .ro sz (.s (A.iteN b n.val m.val)) fun e => (List.range sz).map fun j => mergeSV A d b ((f e).getD j .any) ((g e).getD j .any)
          | none => .any
        | .nils, .ro sz m g => .ro sz (.s (A.iteN b 0 m.val)) fun e => (List.range sz).map fun j => mergeSV A d b .any ((g e).getD j .any)
        | _, _ => .any
section
variable {w : World} {I : Nat → Prop}
theorem mergeSV_ok (d : Nat) : ∀ {β : Vln} {b : Bool} {x y : SV} {v : Value}, (b = true → Rep w I β x v) → (b = false → Rep w I β y v) → Rep w I β (mergeSV Ar.real d b x y) v := by
  induction d with
  | zero => intro β b x y v _ _; exact .any v
  | succ d ih =>
    intro β b x y v hx hy
    unfold mergeSV
    split
    · rename_i k m k' n hi hj
      split
      · rename_i e
        have e := kEq_spec e
        subst e
        cases b
        · obtain rfl := intOfSV_spec (hy rfl) hj; exact .int _ _
        · obtain rfl := intOfSV_spec (hx rfl) hi; exact .int _ _
      · exact .any v
    · split
      · rename_i m n hi hj
        cases b
        · obtain rfl := boolOfSV_spec (hy rfl) hj; exact .bs _
        · obtain rfl := boolOfSV_spec (hx rfl) hi; exact .bs _
      · split
        · cases b
          · exact hy rfl
          · exact hx rfl
        · cases b
          · exact hy rfl
          · exact hx rfl
        · rename_i sz n f y
          split
          · rename_i m g hl
            cases b
            · have hy' := hy rfl
              unfold lenOfRo at hl
              split at hl
              · cases hl
                cases hy'
                exact .ro0 _ _ rfl _ _ _
              · split at hl
                · rename_i e
                  subst e
                  cases hl
                  cases hy' with
                  | ro0 _ _ hn _ _ _ => exact .ro0 _ (.s _) hn _ _ _
                  | ro hI hc hlen u h1 hcell hrep =>
                    refine .ro (n := .s _) hI hc (fun e he => by simp) u h1 hcell (fun e j he hj => ?_)
                    rw [mk_getD (l := ([] : List SV)) _ _ _ _ hj]
                    exact ih (fun h => by cases h) (fun _ => hrep e j he hj)
                · cases hl
              · cases hl
            · cases hx rfl with
              | ro0 _ _ hn _ _ _ => exact .ro0 _ (.s _) hn _ _ _
              | ro hI hc hlen u h1 hcell hrep =>
                refine .ro (n := .s _) hI hc (fun e he => by simp) u h1 hcell (fun e j he hj => ?_)
                rw [mk_getD (l := ([] : List SV)) _ _ _ _ hj]
                exact ih (fun _ => hrep e j he hj) (fun h => by cases h)
          · exact .any v
        · rename_i sz m g
          cases b
          · cases hy rfl with
            | ro0 _ _ hn _ _ _ => exact .ro0 _ (.s _) hn _ _ _
            | ro hI hc hlen u h1 hcell hrep =>
              refine .ro (n := .s _) hI hc (fun e he => by simp) u h1 hcell (fun e j he hj => ?_)
              rw [mk_getD (l := ([] : List SV)) _ _ _ _ hj]
              exact ih (fun h => by cases h) (fun _ => hrep e j he hj)
          · cases hx rfl
            exact .ro0 _ _ rfl _ _ _
        · exact .any v
end
def pickSV (A : Ar) (c x y : SV) : Option SV :=
  match c with
  | .bl true => some x
  | .bl false => some y
  | .bs b => some (mergeSV A 4 b x y)
  | _ => none
def unSV (A : Ar) (op : UnOp) (x : SV) : PR :=
  match op with
  | .not => (notSV A x).map fun b => (True, b)
  | .neg => match x with
    | .lit k n => some (True, .lit k (wOp .sub k 0 n))
    | .int .i64 n => some (A.inR .i64 (A.sub 0 n), .int .i64 (A.sub 0 n))
    | .int k n => some (True, .int k (A.w .sub k 0 n))
    | _ => none
  | .xor => match x with
    | .lit k n => some (True, .int k (A.xorm k n))
    | .int k n => some (True, .int k (A.xorm k n))
    | _ => none
  | _ => none
section
variable {P : Program} {w : World} {I : Nat → Prop} {β : Vln}
theorem unSV_ok {op : UnOp} {x : SV} {u : Value} {p : Prop} {r : SV} (h : unSV Ar.real op x = some (p, r)) (hp : p) (hx : Rep w I β x u) :
    ∃ v, (Op.unary op u).run P w = .ok v w ∧ Rep w I β r v := by
  unfold unSV at h
  split at h
  · cases hn : notSV Ar.real x with
    | none => rw [hn] at h; cases h
    | some s =>
      rw [hn] at h
      cases h
      have : ∃ b, u = .bool b := by
        unfold notSV at hn
        split at hn <;> cases hn <;> cases hx <;> exact ⟨_, rfl⟩
      obtain ⟨b, rfl⟩ := this
      exact ⟨_, by simp [Op.unary], notSV_ok hn hx⟩
  · split at h
    · cases h; cases hx
      exact ⟨_, by simp only [Op.unary, Op.intArith, Sem.run_pure]; rfl, .lit _ _⟩
    · cases h; cases hx
      rename_i n
      have e : IntKind.i64.wrap (0 - n) = 0 - n := inRange_wrap rfl hp
      refine ⟨.int .i64 (0 - n), ?_, .int _ _⟩
      simp only [Op.unary, Op.intArith, Sem.run_pure, e]
    · cases h; cases hx
      exact ⟨_, by simp only [Op.unary, Op.intArith, Sem.run_pure]; rfl, .int _ _⟩
    · cases h
  · split at h
    · cases h; cases hx
      exact ⟨_, by simp only [Op.unary, Op.intBits, Sem.run_pure]; rfl, .int _ _⟩
    · cases h; cases hx
      exact ⟨_, by simp only [Op.unary, Op.intBits, Sem.run_pure]; rfl, .int _ _⟩
    · cases h
  · cases h
end
def byteAt (f : NV → List SV) (i : Nat) : Int :=
  match f (.s i) with
  | [.int .u8 x] => x
  | [.lit .u8 x] => x
  | _ => 0
def bytesOk (f : NV → List SV) (e : NV) : Bool :=
  match f e with
  | [.int .u8 _] => true
  | [.lit .u8 _] => true
  | _ => false
def fieldOff (sh : Shape) (f : Nat) : Option (Nat × Nat) :=
  match sh with
  | .struct fs => fs[f]?
  | _ => none
def fieldAddrSV (off : Nat) (x : SV) : Option SV :=
  match x with
  | .ptr i o => some (.ptr i (o + off))
  | .rp cs => if off ≤ cs.length then some (.rp (cs.drop off)) else none
  | .pe i sz e o => some (.pe i sz e (o + off))
  | _ => none
theorem addr_add_none (b o n : Nat) : (⟨b, o, none⟩ : Addr).add n = ⟨b, o + n, none⟩ := by
  unfold Addr.add; split
  · rename_i h; subst h; rfl
  · rfl
section
variable {P : Program} {w : World} {I : Nat → Prop} {β : Vln}
theorem drop_getD {α : Type} (l : List α) (n j : Nat) (d : α) : (l.drop n).getD j d = l.getD (n + j) d := by
  simp [List.getD_eq_getElem?_getD]
theorem fieldAddrSV_ok {off : Nat} {x : SV} {u : Value} {r : SV} (h : fieldAddrSV off x = some r) (hx : Rep w I β x u) :
    ∃ a : Addr, u = .pointer (some a) ∧ Rep w I β r (.pointer (some (a.add off))) := by
  unfold fieldAddrSV at h
  split at h
  · cases h; cases hx with
    | ptr hi => exact ⟨_, rfl, by rw [addr_add_none]; exact .ptr hi⟩
  · split at h
    · rename_i cs hle
      cases h; cases hx with
      | rp hI u hcell hrep =>
        refine ⟨_, rfl, ?_⟩
        rw [addr_add_none]
        refine .rp hI (fun j => u (off + j)) (fun j hj => ?_) (fun j hj => ?_)
        · rw [List.length_drop] at hj
          rw [Nat.add_assoc]
          exact hcell (off + j) (by omega)
        · rw [List.length_drop] at hj
          rw [drop_getD]
          exact hrep (off + j) (by omega)
    · cases h
  · cases h; cases hx with
    | pe hi =>
      refine ⟨_, rfl, ?_⟩
      rw [addr_add_none, Nat.add_assoc]
      exact .pe hi
  · cases h
end
def idxO (A : Ar) (n : Int) (e m : NV) : Prop :=
  match e with
  | .l _ => match m with
    | .l b => match n with
      | .ofNat k => match Nat.blt k b with
        | true => True
        | false => False
      | _ => False
    | m => A.idx n m.val
  | _ => A.idx n m.val
theorem idxO_ok {n : Int} {e m : NV} (h : idxO Ar.real n e m) : 0 ≤ n ∧ n.toNat < m.val := by
  unfold idxO at h
  split at h
  · split at h
    · split at h
      · split at h
        · rename_i k hk
          exact ⟨Int.natCast_nonneg _, by simpa [NV.val] using hk⟩
        · exact h.elim
      · exact h.elim
    · exact h
  · exact h
def indexAddrSV (A : Ar) (x i : SV) : PR :=
  match ixSV A i with
  | none => none
  | some (n, e) => match x with
    | .ro sz m f => some (idxO A n e m, .rp (f e))
    | .sl j sz off len => some (idxO A n e len, .pe j sz (addNV A off e) 0)
    | _ => none
def arrayAddrSV (A : Ar) (m sz : Nat) (x i : SV) : PR :=
  match ixSV A i with
  | none => none
  | some (n, e) => match x with
    | .ra sz' m' f => if m' = m ∧ sz' = sz then some (idxO A n e (.l m), .rp (f e)) else none
    | .ptr j o => match e with
      | .l k => some (idxO A n e (.l m), .ptr j (o + k * sz))
      | .s _ => none
    | _ => none
section
variable {P : Program} {w : World} {I : Nat → Prop} {β : Vln}
theorem ixSV_spec {s : SV} {v : Value} {n : Int} {e : NV} (h : ixSV Ar.real s = some (n, e)) (hs : Rep w I β s v) : (∃ k, v = .int k n) ∧ e.val = n.toNat := by
  unfold ixSV at h
  split at h <;> cases h <;> cases hs <;> exact ⟨⟨_, rfl⟩, rfl⟩
theorem run_indexAt_slice {t e : TypeId} {i : TypeInfo} (ht : P.underlying t = some (.slice e)) (hi : P.info? e = some i) {a : Addr} {len cap : Nat} {k : IntKind} {n : Int} (h0 : 0 ≤ n) (h1 : n.toNat < len) :
    (Instr.indexAt t (.slice (some a) len cap) (.int k n)).run P w = .ok (.pointer (some (a.add (n.toNat * i.size)))) w := by
  have h2 : n < len := by omega
  simp [Instr.indexAt, asIntOf, run_underlying ht, sizeOf, typeInfo, hi, h0, h2]
theorem run_indexAt_array {t e m : Nat} {i : TypeInfo} (ht : P.underlying t = some (.array m e)) (hi : P.info? e = some i) {a : Addr} {k : IntKind} {n : Int} (h0 : 0 ≤ n) (h1 : n.toNat < m) :
    (Instr.indexAt t (.pointer (some a)) (.int k n)).run P w = .ok (.pointer (some (a.add (n.toNat * i.size)))) w := by
  have h2 : n < m := by omega
  simp [Instr.indexAt, asIntOf, Instr.sureAddr, run_underlying ht, sizeOf, typeInfo, hi, h0, h2]
theorem indexAddrSV_ok {t e : TypeId} {inf : TypeInfo} {x i : SV} {u v : Value} {p : Prop} {r : SV} (ht : P.underlying t = some (.slice e)) (hi : P.info? e = some inf)
    (h : indexAddrSV Ar.real x i = some (p, r)) (hp : p) (hx : Rep w I β x u) (hv : Rep w I β i v) (hsz : ∀ sz n f, x = .ro sz n f → sz = inf.size) (hsz' : ∀ j sz off len, x = .sl j sz off len → sz = inf.size) :
    ∃ z, (Instr.indexAt t u v).run P w = .ok z w ∧ Rep w I β r z := by
  unfold indexAddrSV at h
  split at h
  · cases h
  · rename_i n e' hix
    obtain ⟨⟨k, rfl⟩, he⟩ := ixSV_spec hix hv
    split at h
    · rename_i sz m f
      obtain rfl := hsz _ _ _ rfl
      cases h
      obtain ⟨h0, h1⟩ : 0 ≤ n ∧ n.toNat < m.val := idxO_ok hp
      cases hx with
      | ro0 sz n hn f A c => omega
      | ro hI hc hlen u h1' hcell hrep =>
        refine ⟨_, run_indexAt_slice ht hi h0 h1, ?_⟩
        rw [addr_add_none]
        have hl := hlen e' (by omega)
        refine .rp hI (fun j => u n.toNat j) (fun j hj => ?_) (fun j hj => ?_)
        · exact hcell n.toNat j h1 (by omega)
        · rw [← he]; exact hrep e' j (by omega) (by omega)
    · rename_i j sz off len
      obtain rfl := hsz' _ _ _ _ rfl
      cases h
      obtain ⟨h0, h1⟩ : 0 ≤ n ∧ n.toNat < len.val := idxO_ok hp
      cases hx with
      | sl0 hl A => omega
      | sl hb hc hl ho =>
        refine ⟨_, run_indexAt_slice ht hi h0 h1, ?_⟩
        rw [addr_add_none, ho (by omega)]
        have := Rep.pe (w := w) (I := I) (sz := inf.size) (e := addNV Ar.real off e') (o := 0) hb
        rw [addNV_val, he, Nat.add_zero, Nat.add_mul] at this
        exact this
    · cases h
theorem arrayAddrSV_ok {t e m : Nat} {inf : TypeInfo} {x i : SV} {u v : Value} {p : Prop} {r : SV} (ht : P.underlying t = some (.array m e)) (hi : P.info? e = some inf)
    (h : arrayAddrSV Ar.real m inf.size x i = some (p, r)) (hp : p) (hx : Rep w I β x u) (hv : Rep w I β i v) :
    ∃ z, (Instr.indexAt t u v).run P w = .ok z w ∧ Rep w I β r z := by
  unfold arrayAddrSV at h
  split at h
  · cases h
  · rename_i n e' hix
    obtain ⟨⟨k, rfl⟩, he⟩ := ixSV_spec hix hv
    split at h
    · split at h
      · rename_i hc
        obtain ⟨rfl, rfl⟩ := hc
        cases h
        obtain ⟨h0, h1⟩ := idxO_ok hp
        simp only [NV.val] at h1
        cases hx with
        | ra hI hlen u hcell hrep =>
          refine ⟨_, run_indexAt_array ht hi h0 h1, ?_⟩
          rw [addr_add_none]
          have hl := hlen e' (by omega)
          refine .rp hI (fun j => u n.toNat j) (fun j hj => ?_) (fun j hj => ?_)
          · exact hcell n.toNat j h1 (by omega)
          · rw [← he]; exact hrep e' j (by omega) (by omega)
      · cases h
    · split at h
      · cases h
        obtain ⟨h0, h1⟩ := idxO_ok hp
        simp only [NV.val] at h1
        cases hx with
        | ptr hb =>
          refine ⟨_, run_indexAt_array ht hi h0 h1, ?_⟩
          rw [addr_add_none]
          simp only [NV.val] at he
          rw [← he]
          exact .ptr hb
      · cases h
    · cases h
end
end Go.Eng
/-
  The symbolic executor: slices of slices, parts of values, what is read of memory that never changes.
-/
namespace Go.Eng
def boundSV (A : Ar) (d : NV) (s : Option SV) : Option (Prop × NV) :=
  match s with
  | none => some (True, d)
  | some s => match ixSV A s with
    | some (n, e) => some (A.nn n, e)
    | none => none
def leNV (A : Ar) (a b : NV) : Prop := A.leN a.val b.val
def sliceSV (A : Ar) (x : SV) (lo hi mx : Option SV) : PR :=
  match mx with
  | some m => match x, lo, hi, m with
    | .ro sz n f, none, some (.lit _ 0), .lit _ 0 => some (True, .nils)
    | _, _, _, _ => none
  | none => match x with
    | .ro sz n f => match boundSV A (.l 0) lo, boundSV A n hi with
      | some (p, l), some (q, h) => some (p ∧ q ∧ leNV A l h ∧ leNV A h n, .ro sz (subNV A h l) fun e => f (addNV A l e))
      | _, _ => none
    | .sl i sz off n => match boundSV A (.l 0) lo, boundSV A n hi with
      | some (p, l), some (q, h) => some (p ∧ q ∧ leNV A l h ∧ leNV A h n, .sl i sz (addNV A off l) (subNV A h l))
      | _, _ => none
    | .nils => match boundSV A (.l 0) lo, boundSV A (.l 0) hi with
      | some (p, l), some (q, h) => some (p ∧ q ∧ leNV A l h ∧ leNV A h (.l 0), .nils)
      | _, _ => none
    | _ => none
section
variable {P : Program} {w : World} {I : Nat → Prop} {β : Vln}
theorem run_sliceBound {k : IntKind} {i : Int} {y : Nat} {code : BoundsCode} (h0 : 0 ≤ i) (h1 : i ≤ y) : (Instr.sliceBound (.int k i) y code).run P w = .ok i.toNat w := by
  simp [Instr.sliceBound, asIntOf, h0, h1]
theorem run_slice_of {t e : TypeId} {inf : TypeInfo} (ht : P.underlying t = some (.slice e)) (hi : P.info? e = some inf) {a : Option Addr} {len cap l h : Nat} {lo hv : Option Value}
    (hh : ∀ v, hv = some v → ∃ k, v = .int k (h : Int)) (hh' : hv = none → h = len) (hl : ∀ v, lo = some v → ∃ k, v = .int k (l : Int)) (hl' : lo = none → l = 0) (hlh : l ≤ h) (hhc : h ≤ cap) :
    (Instr.sliceAt t (.slice a len cap) lo hv none).run P w = .ok (.slice (if cap = l then a else a.map (·.add (l * inf.size))) (h - l) (cap - l)) w := by
  have e1 : ∀ w : World, (match hv with | some v => Instr.sliceBound v cap .sliceAcap | none => pure len : Sem Nat).run P w = .ok h w := by
    intro w
    cases hv with
    | none => simp [hh' rfl]
    | some v => obtain ⟨k, rfl⟩ := hh v rfl; exact run_sliceBound (by omega) (by omega)
  have e2 : ∀ w : World, (match lo with | some v => Instr.sliceBound v h .sliceB | none => pure 0 : Sem Nat).run P w = .ok l w := by
    intro w
    cases lo with
    | none => simp [hl' rfl]
    | some v => obtain ⟨k, rfl⟩ := hl v rfl; exact run_sliceBound (by omega) (by omega)
  have e3 : ∀ w : World, (Instr.sliceBounds true len cap lo hv none).run P w = .ok (l, h, cap) w := by
    intro w
    unfold Instr.sliceBounds
    cases hv with
    | none =>
      have e1' := e1
      cases lo with
      | none => simp at e1 e2 ⊢; simp [hh' rfl, hl' rfl]
      | some v => obtain ⟨k, rfl⟩ := hl v rfl; simp [hh' rfl]; rw [run_sliceBound (by omega) (by have := hh' rfl; omega)]; simp
    | some v' =>
      obtain ⟨k', rfl⟩ := hh v' rfl
      cases lo with
      | none => simp [hl' rfl]; rw [run_sliceBound (by omega) (by omega)]; simp
      | some v => obtain ⟨k, rfl⟩ := hl v rfl; simp; rw [run_sliceBound (by omega) (by omega)]; simp; rw [run_sliceBound (by omega) (by omega)]; simp
  simp only [Instr.sliceAt, Sem.run_bind, run_underlying ht, Result.andThen_ok]
  simp [Instr.slice, run_underlying ht, e3, sizeOf, typeInfo, hi]
theorem boundSV_spec {d l : NV} {s : Option SV} {v : Option Value} {p : Prop} (h : boundSV Ar.real d s = some (p, l)) (hp : p) (hs : ∀ x, s = some x → ∃ y, v = some y ∧ Rep w I β x y) (hn : s = none → v = none) :
    (∀ x, v = some x → ∃ k, x = .int k (l.val : Int)) ∧ (v = none → l.val = d.val) := by
  unfold boundSV at h
  split at h
  · cases h
    rw [hn rfl]
    exact ⟨fun x hx => (by cases hx), fun _ => rfl⟩
  · split at h
    · rename_i s n e hix
      cases h
      obtain ⟨y, rfl, hr⟩ := hs _ rfl
      obtain ⟨⟨k, rfl⟩, he⟩ := ixSV_spec hix hr
      refine ⟨fun x hx => ⟨k, ?_⟩, fun h => (by cases h)⟩
      cases hx
      have : (0 : Int) ≤ n := hp
      rw [he]; congr 1; omega
    · cases h
theorem sliceSV_ok {t e : TypeId} {inf : TypeInfo} {x : SV} {u : Value} {lo hi mx : Option SV} {vl vh vm : Option Value} {p : Prop} {r : SV} (ht : P.underlying t = some (.slice e)) (hinf : P.info? e = some inf)
    (h : sliceSV Ar.real x lo hi mx = some (p, r)) (hp : p) (hx : Rep w I β x u)
    (hlo : ∀ x, lo = some x → ∃ y, vl = some y ∧ Rep w I β x y) (hlo' : lo = none → vl = none)
    (hhi : ∀ x, hi = some x → ∃ y, vh = some y ∧ Rep w I β x y) (hhi' : hi = none → vh = none)
    (hmx : ∀ x, mx = some x → ∃ y, vm = some y ∧ Rep w I β x y) (hmx' : mx = none → vm = none)
    (hsz : ∀ sz n f, x = .ro sz n f → sz = inf.size) (hsz' : ∀ j sz off len, x = .sl j sz off len → sz = inf.size) :
    ∃ z, (Instr.sliceAt t u vl vh vm).run P w = .ok z w ∧ Rep w I β r z := by
  unfold sliceSV at h
  split at h
  · split at h
    · rename_i sz n f k k'
      cases h
      obtain rfl := hlo' rfl
      obtain ⟨y, rfl, hy⟩ := hhi _ rfl
      obtain ⟨y', rfl, hy'⟩ := hmx _ rfl
      cases hy; cases hy'
      have key : ∀ (a : Option Addr) (len cap : Nat), (Instr.sliceAt t (.slice a len cap) none (some (.int k 0)) (some (.int k' 0))).run P w = .ok (.slice a 0 0) w := by
        intro a len cap
        simp only [Instr.sliceAt, Sem.run_bind, run_underlying ht, Result.andThen_ok]
        simp [Instr.slice, run_underlying ht, Instr.sliceBounds, Instr.sliceBound, asIntOf, sizeOf, typeInfo, hinf]
      cases hx with
      | ro0 _ _ hn _ A c => exact ⟨_, key _ _ _, .nils _⟩
      | ro hI hc hlen u h1 hcell hrep => exact ⟨_, key _ _ _, .nils _⟩
    · cases h
  · obtain rfl := hmx' rfl
    split at h
    · rename_i sz n f
      obtain rfl := hsz _ _ _ rfl
      split at h
      · rename_i p l q hh hbl hbh
        cases h
        obtain ⟨h1, h2, h3, h4⟩ := hp
        obtain ⟨l1, l2⟩ := boundSV_spec hbl h1 hlo hlo'
        obtain ⟨k1, k2⟩ := boundSV_spec hbh h2 hhi hhi'
        have h3 : l.val ≤ hh.val := h3
        have h4 : hh.val ≤ n.val := h4
        cases hx with
        | ro0 _ _ hn _ A c =>
          refine ⟨_, run_slice_of ht hinf (h := hh.val) (l := l.val) k1 (fun e => by rw [k2 e]; omega) l1 l2 h3 (by omega), ?_⟩
          have e0 : hh.val - l.val = 0 := by omega
          rw [e0]
          exact .ro0 _ _ (by rw [subNV_val]; exact e0) _ _ _
        | @ro _ _ b o c _ _ hI hc hlen u h1' hcell hrep =>
          refine ⟨_, run_slice_of ht hinf (h := hh.val) (l := l.val) k1 (fun e => k2 e) l1 l2 h3 (by omega), ?_⟩
          by_cases he : hh.val - l.val = 0
          · rw [he]; exact .ro0 _ _ (by rw [subNV_val]; exact he) _ _ _
          · rw [if_neg (by omega)]
            simp only [Option.map_some, addr_add_none]
            have := subNV_val hh l
            rw [← this]
            refine .ro hI (by rw [this]; omega) (fun e he => hlen _ (by rw [addNV_val]; omega)) (fun i j => u (l.val + i) j) (fun i j hi hj => h1' _ _ (by omega) hj) (fun i j hi hj => ?_) (fun e j he hj => ?_)
            · have hc := hcell (l.val + i) j (by omega) hj
              rw [← hc, Nat.add_mul]
              congr 2
              omega
            · have hc := hrep (addNV Ar.real l e) j (by rw [addNV_val]; omega) hj
              rw [addNV_val] at hc
              exact hc
      · cases h
    · rename_i i sz off n
      obtain rfl := hsz' _ _ _ _ rfl
      split at h
      · rename_i p l q hh hbl hbh
        cases h
        obtain ⟨h1, h2, h3, h4⟩ := hp
        obtain ⟨l1, l2⟩ := boundSV_spec hbl h1 hlo hlo'
        obtain ⟨k1, k2⟩ := boundSV_spec hbh h2 hhi hhi'
        have h3 : l.val ≤ hh.val := h3
        have h4 : hh.val ≤ n.val := h4
        cases hx with
        | sl0 hl0 A =>
          have e1 : hh.val = 0 := by omega
          have e2 : l.val = 0 := by omega
          refine ⟨_, run_slice_of ht hinf (h := hh.val) (l := l.val) k1 (fun e => by rw [k2 e]; omega) l1 l2 h3 (by omega), ?_⟩
          rw [e1, e2]
          exact .sl0 (by rw [subNV_val]; omega) _
        | @sl _ _ _ b C o c _ _ hb hc hl ho =>
          refine ⟨_, run_slice_of ht hinf (h := hh.val) (l := l.val) k1 (fun e => k2 e) l1 l2 h3 (by omega), ?_⟩
          rw [← subNV_val]
          by_cases he : c = l.val
          · rw [if_pos he]
            exact .sl hb (by rw [addNV_val]; omega) (by rw [subNV_val]; omega) (fun h => by omega)
          · rw [if_neg he]
            simp only [Option.map_some, addr_add_none]
            exact .sl hb (by rw [addNV_val]; omega) (by rw [subNV_val]; omega) (fun h => by rw [addNV_val, ho (by omega), Nat.add_mul])
      · cases h
    · split at h
      · rename_i p l q hh hbl hbh
        cases h
        obtain ⟨h1, h2, h3, h4⟩ := hp
        obtain ⟨l1, l2⟩ := boundSV_spec hbl h1 hlo hlo'
        obtain ⟨k1, k2⟩ := boundSV_spec hbh h2 hhi hhi'
        have h3 : l.val ≤ hh.val := h3
        have h4 : hh.val ≤ 0 := h4
        have e1 : hh.val = 0 := by omega
        have e2 : l.val = 0 := by omega
        cases hx with
        | nils A =>
          refine ⟨_, run_slice_of ht hinf (h := hh.val) (l := l.val) k1 (fun e => k2 e) l1 l2 h3 (by omega), ?_⟩
          rw [e1, e2]
          exact .nils _
      · cases h
    · cases h
end
def extractSV (x : SV) (i : Nat) : Option SV :=
  match x with
  | .tup cs => if i < cs.length then some (cs.getD i .any) else none
  | _ => none
def partSV (isAgg : Bool) (size : Nat) (cs : List SV) (o : Nat) : Option SV :=
  match isAgg with
  | true => if o + size ≤ cs.length then some (.agg ((cs.drop o).take size)) else none
  | false => if o < cs.length then some (cs.getD o .any) else none
def isAggSh (sh : Shape) : Bool :=
  match sh with
  | .struct _ => true
  | .array _ _ => true
  | _ => false
section
variable {P : Program} {w : World} {I : Nat → Prop} {β : Vln}
theorem extractSV_ok {x : SV} {u : Value} {i : Nat} {r : SV} (h : extractSV x i = some r) (hx : Rep w I β x u) : ∃ z, (Instr.extract u i).run P w = .ok z w ∧ Rep w I β r z := by
  unfold extractSV at h
  split at h
  · split at h
    · rename_i cs hlt
      cases h
      cases hx with
      | @tup _ _ vs hl hr =>
        have hi : i < vs.size := by omega
        refine ⟨vs[i], ?_, ?_⟩
        · simp [Instr.extract, hi]
        · have := hr i hlt
          rw [Array.getD_eq_getD_getElem?, Array.getElem?_eq_getElem hi] at this
          exact this
    · cases h
  · cases h
theorem run_isAgg {t : TypeId} {d : TypeDesc} (hd : P.underlying t = some d) : (isAgg t).run P w = .ok (isAggSh (shapeOf d)) w := by
  cases d <;> simp [isAgg, run_underlying hd, shapeOf, isAggSh]
theorem take_getD {α : Type} (l : List α) (n j : Nat) (d : α) (h : j < n) : (l.take n).getD j d = l.getD j d := by
  simp [List.getD_eq_getElem?_getD, h]
theorem run_loadVar_known {t : TypeId} {inf : TypeInfo} {d : TypeDesc} {cs : List SV} {r : SV} {b o : Nat} {u : Nat → Value} (hd : P.underlying t = some d) (hi : P.info? t = some inf)
    (h : partSV (isAggSh (shapeOf d)) inf.size cs 0 = some r) (hcell : ∀ j, j < cs.length → w.cell? ⟨b, o + j, none⟩ = some (u j)) (hrep : ∀ j, j < cs.length → Rep w I β (cs.getD j .any) (u j)) :
    ∃ z, (loadVar t ⟨b, o, none⟩).run P w = .ok z w ∧ Rep w I β r z := by
  unfold partSV at h
  split at h
  · rename_i ha
    split at h
    · rename_i hle
      cases h
      refine ⟨.agg ((List.range inf.size).map u).toArray, ?_, ?_⟩
      · have hl := run_loadCells (P := P) (w := w) ⟨b, o, none⟩ inf.size u (fun j hj => by rw [addr_add_none]; exact hcell j (by omega))
        simp [loadVar, run_isAgg hd, ha, sizeOf, typeInfo, hi, hl]
      · refine .agg (by simp; omega) (fun j hj => ?_)
        simp at hj
        rw [take_getD _ _ _ _ (by omega)]
        have : (((List.range inf.size).map u).toArray).getD j undef = u j := by
          rw [Array.getD_eq_getD_getElem?]; simp [show j < inf.size by omega]
        rw [this]
        simpa using hrep j (by omega)
    · cases h
  · rename_i ha
    split at h
    · rename_i hlt
      cases h
      refine ⟨u 0, ?_, hrep 0 hlt⟩
      have := hcell 0 hlt
      simp only [Nat.add_zero] at this
      simp [loadVar, run_isAgg hd, ha, this]
    · cases h
def loadRp (ti : TI) (x : SV) : Option SV :=
  match x with
  | .rp cs => partSV (isAggSh ti.shape) ti.size cs 0
  | _ => none
theorem Rep.up {s : SV} {v : Value} (h : Rep w I Vln.no s v) : Rep w I β s v := h.mono (fun _ h => h) (fun _ _ => rfl) (fun _ _ h => by cases h)
theorem loadRp_ok {t : TypeId} {ti : TI} {x : SV} {u : Value} {r : SV} (ht : tiOf P t = some ti) (h : loadRp ti x = some r) (hx : Rep w I β x u) :
    ∃ z, (Instr.loadAt t u).run P w = .ok z w ∧ Rep w I β r z := by
  obtain ⟨inf, d, z0, hi, hd, hz, hsz, hby, hzero, hsh⟩ := tiOf_spec ht
  unfold loadRp at h
  split at h
  · cases hx with
    | rp hI u hcell hrep =>
      rw [hsh, ← hsz] at h
      obtain ⟨z, hz, hr⟩ := run_loadVar_known (β := β) hd hi h hcell (fun j hj => (hrep j hj).up)
      exact ⟨z, by simpa [Instr.loadAt, Instr.sureAddr] using hz, hr⟩
  · cases h
end
end Go.Eng
/-
  The symbolic executor: own memory: loads and stores.
-/
namespace Go.Eng
def putW (w : World) (b : Nat) (o : Obj) : World := { w with heap := w.heap.setIfInBounds b o }
theorem putW_other (w : World) (b b' : Nat) (o : Obj) (h : b' ≠ b) : (putW w b o).heap[b']? = w.heap[b']? := by
  unfold putW
  rw [Array.getElem?_setIfInBounds_ne (Ne.symm h)]
theorem putW_same (w : World) (b : Nat) (o : Obj) (h : b < w.heap.size) : (putW w b o).heap[b]? = some o := by
  unfold putW
  simp [h]
theorem putW_size (w : World) (b : Nat) (o : Obj) : (putW w b o).heap.size = w.heap.size := by
  unfold putW; simp
theorem putW_putW (w : World) (b : Nat) (o o' : Obj) : putW (putW w b o) b o' = putW w b o' := by
  unfold putW; simp
theorem putW_self (w : World) (b : Nat) (o : Obj) (h : w.heap[b]? = some o) : putW w b o = w := by
  unfold putW
  have : w.heap.setIfInBounds b o = w.heap := by
    apply Array.ext_getElem?
    intro i
    by_cases e : i = b
    · subst e
      rw [h]
      have hlt : i < w.heap.size := (Array.getElem?_eq_some_iff.1 h).1
      simp [hlt]
    · rw [Array.getElem?_setIfInBounds_ne (Ne.symm e)]
  rw [this]
theorem setCell_putW (w : World) (b k : Nat) (vs : Array Value) (t : TypeId) (fz : Nat × Nat) (v : Value) (h : w.heap[b]? = some (.cells vs t fz)) :
    w.setCell ⟨b, k, none⟩ v = putW w b (.cells (vs.setIfInBounds k v) t fz) := by
  have key : (w.setCell ⟨b, k, none⟩ v).heap = w.heap.setIfInBounds b (.cells (vs.setIfInBounds k v) t fz) := by
    apply Array.ext_getElem?
    intro i
    unfold World.setCell
    simp only [Array.getElem?_modify]
    by_cases e : b = i
    · subst e
      have hlt : b < w.heap.size := (Array.getElem?_eq_some_iff.1 h).1
      rw [if_pos rfl, h]
      simp [hlt]
    · rw [if_neg e, Array.getElem?_setIfInBounds_ne e]
  show ({ w with heap := (w.setCell ⟨b, k, none⟩ v).heap } : World) = _
  rw [key]
  rfl
def splice (vs : Array Value) (k : Nat) : List Value → Array Value
  | [] => vs
  | x :: xs => splice (vs.setIfInBounds k x) (k + 1) xs
theorem splice_size (xs : List Value) : ∀ (vs : Array Value) (k : Nat), (splice vs k xs).size = vs.size := by
  induction xs with
  | nil => intro vs k; rfl
  | cons x xs ih => intro vs k; rw [splice, ih]; simp
theorem getD_set (vs : Array Value) (k j : Nat) (x d : Value) (hk : k < vs.size) : (vs.setIfInBounds k x).getD j d = if j = k then x else vs.getD j d := by
  simp only [Array.getD_eq_getD_getElem?]
  by_cases e : j = k
  · subst e; simp [hk]
  · rw [if_neg e, Array.getElem?_setIfInBounds_ne (Ne.symm e)]
theorem splice_getD (xs : List Value) : ∀ (vs : Array Value) (k j : Nat) (d : Value), k + xs.length ≤ vs.size →
    (splice vs k xs).getD j d = if k ≤ j ∧ j < k + xs.length then xs.getD (j - k) d else vs.getD j d := by
  induction xs with
  | nil => intro vs k j d _; simp [splice]; omega
  | cons x xs ih =>
    intro vs k j d h
    simp only [List.length_cons] at h ⊢
    rw [splice, ih _ _ _ _ (by simp; omega), getD_set _ _ _ _ _ (by omega)]
    by_cases e1 : j = k
    · subst e1
      rw [if_neg (by omega), if_pos rfl, if_pos (by omega)]
      simp
    · rw [if_neg e1]
      by_cases e2 : k + 1 ≤ j ∧ j < k + 1 + xs.length
      · rw [if_pos e2, if_pos (by omega)]
        rw [show j - k = (j - (k + 1)) + 1 by omega]
        simp
      · rw [if_neg e2, if_neg (by omega)]
section
variable {P : Program}
theorem run_store_own (w : World) (b k : Nat) (vs : Array Value) (t : TypeId) (fz : Nat × Nat) (v : Value) (h : w.heap[b]? = some (.cells vs t fz)) (hk : k < vs.size) (hf : NoFz vs.size fz) (h1 : v.oneCell' = true) :
    (store ⟨b, k, none⟩ v).run P w = .ok () (putW w b (.cells (vs.setIfInBounds k v) t fz)) := by
  have hc : w.cell? ⟨b, k, none⟩ = some vs[k] := by simp [World.cell?, h, hk]
  have hfz : w.frozen? ⟨b, k, none⟩ = false := by
    have := hf.no k hk
    simp [World.frozen?, h]
    omega
  rw [← setCell_putW w b k vs t fz v h]
  rw [run_store P w _ v _ h1]
  simp [hc, hfz]
theorem run_storeCells_own (b o : Nat) (t : TypeId) (fz : Nat × Nat) : ∀ (xs : List Value) (i : Nat) (vs : Array Value) (w : World), w.heap[b]? = some (.cells vs t fz) → NoFz vs.size fz → o + i + xs.length ≤ vs.size →
    (∀ x ∈ xs, x.oneCell' = true) → (storeCells ⟨b, o, none⟩ xs i).run P w = .ok () (putW w b (.cells (splice vs (o + i) xs) t fz)) := by
  intro xs
  induction xs with
  | nil =>
    intro i vs w h _ _ _
    simp [storeCells, splice, putW_self w b _ h]
  | cons x xs ih =>
    intro i vs w h hf hl h1
    simp only [List.length_cons] at hl
    have hb : b < w.heap.size := (Array.getElem?_eq_some_iff.1 h).1
    simp only [storeCells, Sem.run_bind, addr_add_none]
    rw [run_store_own w b (o + i) vs t fz x h (by omega) hf (h1 x (by simp))]
    simp only [Result.andThen_ok]
    rw [ih (i + 1) (vs.setIfInBounds (o + i) x) _ (putW_same _ _ _ hb) (by simpa using hf) (by simp; omega) (fun y hy => h1 y (by simp [hy])), putW_putW]
    rfl
theorem run_storeVar_own (b o : Nat) (t : TypeId) (fz : Nat × Nat) (vs : Array Value) (w : World) (ty : TypeId) (inf : TypeInfo) (v : Value) (hi : P.info? ty = some inf) (h : w.heap[b]? = some (.cells vs t fz)) (hf : NoFz vs.size fz)
    (hs : v.cells.size = inf.size) (hl : o + v.cells.size ≤ vs.size) (h1 : ∀ x ∈ v.cells.toList, x.oneCell' = true) :
    (storeVar ty ⟨b, o, none⟩ v).run P w = .ok () (putW w b (.cells (splice vs o v.cells.toList) t fz)) := by
  have := run_storeCells_own (P := P) b o t fz v.cells.toList 0 vs w h hf (by simpa using hl) h1
  simp [storeVar, sizeOf, typeInfo, hi, hs, this]
end
end Go.Eng
/-
  The symbolic executor: own memory: loads, stores, what becomes data.
-/
namespace Go.Eng
def ltNV (A : Ar) (e n : NV) : Prop := A.leN (A.addN e.val 1) n.val
def ltO (A : Ar) (e n : NV) : Prop :=
  match e with
  | .l a => match n with
    | .l b => match Nat.blt a b with
      | true => True
      | false => False
    | n => ltNV A (.l a) n
  | e => ltNV A e n
theorem ltO_ok {e n : NV} (h : ltO Ar.real e n) : e.val + 1 ≤ n.val := by
  unfold ltO at h
  split at h
  · split at h
    · split at h
      · rename_i hk; simp at hk; simp only [NV.val]; omega
      · exact h.elim
    · exact h
  · exact h
abbrev PRR := Option (Prop × SV × List Nat)
def loadOwn (A : Ar) (hp : HF) (ti : TI) (x : SV) : PRR :=
  match x with
  | .ptr i o => match hp i with
    | some (.cells t cs) => match partSV (isAggSh ti.shape) ti.size (cs.drop o) 0 with
      | some r => some (True, r, [i])
      | none => none
    | _ => none
  | .pe i sz e o => match hp i with
    | some (.row t sz' n f) => if sz' = sz then match partSV (isAggSh ti.shape) ti.size ((f e).drop o) 0 with
      | some r => some (ltO A e n, r, [i])
      | none => none
      else none
    | _ => none
  | _ => none
section
variable {P : Program} {cx : Cx} {w : World} {I : Nat → Prop} {β : Vln} {hp : HF} {nx : Nat}
theorem Hp.own (h : Hp cx I β hp nx w) {i b C : Nat} {x : Blk} (hx : hp i = some x) (hi : β i = some (b, C)) : BlkOk w I β b C x := by
  rcases h.blk i x hx with ⟨b2, C2, h1, h2, h3, h4⟩ | ⟨h1, _⟩
  · rw [hi] at h1; cases h1; exact h4
  · rw [hi] at h1; cases h1
theorem cell_of_heap {b k : Nat} {vs : Array Value} {t : TypeId} {fz : Nat × Nat} (h : w.heap[b]? = some (.cells vs t fz)) (hk : k < vs.size) : w.cell? ⟨b, k, none⟩ = some (vs.getD k undef) := by
  simp [World.cell?, h, hk]
theorem loadOwn_ok {t : TypeId} {ti : TI} {x : SV} {u : Value} {p : Prop} {r : SV} {rd : List Nat} (ht : tiOf P t = some ti) (h : loadOwn Ar.real hp ti x = some (p, r, rd)) (hpp : p)
    (hx : Rep w I β x u) (hh : Hp cx I β hp nx w) : ∃ z, (Instr.loadAt t u).run P w = .ok z w ∧ Rep w I β r z := by
  obtain ⟨inf, d, z0, hi, hd, hz, hsz, hby, hzero, hsh⟩ := tiOf_spec ht
  unfold loadOwn at h
  split at h
  · rename_i i o
    cases hx with
    | @ptr _ _ _ b C hb =>
      split at h
      · rename_i bt cs hbk
        have hok := hh.own hbk hb
        obtain ⟨vs, fz, h1, h2, h3, h4⟩ := hok
        split at h
        · rename_i r' hp'
          cases h
          rw [hsh, ← hsz] at hp'
          obtain ⟨z, hz, hr⟩ := run_loadVar_known (P := P) (w := w) (I := I) (β := β) (t := t) (b := b) (o := o) (u := fun j => vs.getD (o + j) undef) hd hi hp' (fun j hj => by
            rw [List.length_drop] at hj
            exact cell_of_heap h1 (by omega)) (fun j hj => by
            rw [List.length_drop] at hj
            rw [drop_getD]
            exact h4 (o + j) (by omega))
          exact ⟨z, by simpa [Instr.loadAt, Instr.sureAddr] using hz, hr⟩
        · cases h
      · cases h
  · rename_i i sz e o
    cases hx with
    | @pe _ _ _ b C _ _ hb =>
      split at h
      · rename_i bt sz' n f hbk
        split at h
        · rename_i e1
          subst e1
          have hok := hh.own hbk hb
          obtain ⟨vs, fz, h1, h2, h3, h4, h5, h7, h6⟩ := hok
          split at h
          · rename_i r' hp'
            cases h
            have hlt : e.val + 1 ≤ n.val := ltO_ok hpp
            rw [hsh, ← hsz] at hp'
            have hl := h5 e (by omega)
            have hb' : e.val * sz' + sz' ≤ vs.size := by
              rw [h3]
              have : (e.val + 1) * sz' ≤ C * sz' := Nat.mul_le_mul_right _ (by omega)
              rw [Nat.add_mul] at this
              omega
            obtain ⟨z, hz, hr⟩ := run_loadVar_known (P := P) (w := w) (I := I) (β := β) (t := t) (b := b) (o := e.val * sz' + o) (u := fun j => vs.getD (e.val * sz' + (o + j)) undef) hd hi hp' (fun j hj => by
              rw [List.length_drop] at hj
              rw [Nat.add_assoc]
              exact cell_of_heap h1 (by omega)) (fun j hj => by
              rw [List.length_drop] at hj
              rw [drop_getD]
              exact (h6 e (o + j) (by omega) (by omega)).up)
            exact ⟨z, by simpa [Instr.loadAt, Instr.sureAddr] using hz, hr⟩
          · cases h
        · cases h
      · cases h
  · cases h
end
def isData (s : SV) : Bool :=
  match s with
  | .any | .ptr _ _ | .sl _ _ _ _ | .pe _ _ _ _ | .mp _ | .agg _ | .tup _ | .fn _ _ => false
  | .con (.agg _) | .con (.tuple _) => false
  | _ => true
def dataList (A : Ar) : HF → List SV → Option (Prop × List SV × List Nat)
  | _, [] => some (True, [], [])
  | hp, s :: r => match isData s with
    | true => match dataList A hp r with
      | some (p, r', fz) => some (p, s :: r', fz)
      | none => none
    | false => match s with
      | .sl i sz off len => match hp i with
        | some (.row t sz' n f) => match Nat.beq sz' sz, dataList A (hp.upd i none) r with
          | true, some (p, r', fz) => some (A.leN (A.addN off.val len.val) n.val ∧ p, .ro sz len (fun e => f (addNV A off e)) :: r', i :: fz)
          | _, _ => none
        | _ => none
      | _ => none
def HF.gone : HF → List Nat → HF
  | hp, [] => hp
  | hp, i :: r => HF.gone (hp.upd i none) r
section
variable {P : Program} {cx : Cx} {w : World} {I : Nat → Prop} {β : Vln} {hp : HF} {nx : Nat}
theorem Rep.data {s : SV} {v : Value} (h : Rep w I β s v) (hd : isData s = true) : Rep w I Vln.no s v := by
  cases h with
  | any v => simp [isData] at hd
  | lit k n => exact .lit k n
  | int k n => exact .int k n
  | bl b => exact .bl b
  | bs b => exact .bs b
  | con v => exact .con v
  | nilp => exact .nilp
  | nils A => exact .nils A
  | str s => exact .str s
  | ptr h => simp [isData] at hd
  | sl h hc hl ho => simp [isData] at hd
  | sl0 hl A => simp [isData] at hd
  | pe h => simp [isData] at hd
  | mp h => simp [isData] at hd
  | ro0 sz n hn f A c => exact .ro0 sz n hn f A c
  | ro hb hc hlen u h1 hcell hrep => exact .ro hb hc hlen u h1 hcell hrep
  | rp hb u hcell hrep => exact .rp hb u hcell hrep
  | ra hb hlen u hcell hrep => exact .ra hb hlen u hcell hrep
  | fn hl h => simp [isData] at hd
  | agg hl h => simp [isData] at hd
  | tup hl h => simp [isData] at hd
theorem rep_ro_of_sl {i sz : Nat} {off len n : NV} {t : TypeId} {f : NV → List SV} {v : Value} (h : Rep w I β (.sl i sz off len) v) (hh : Hp cx I β hp nx w) (hb : hp i = some (.row t sz n f)) (hl : off.val + len.val ≤ n.val) :
    ∃ I', Hp cx I' β (hp.upd i none) nx w ∧ (∀ b, I b → I' b) ∧ Rep w I' Vln.no (.ro sz len (fun e => f (addNV Ar.real off e))) v ∧ (∀ b, I' b → I b ∨ ∃ C, β i = some (b, C)) := by
  cases h with
  | sl0 hl A => exact ⟨I, hh.drop i, fun _ h => h, .ro0 _ _ hl _ _ _, fun _ h => .inl h⟩
  | @sl _ _ _ b C o c _ _ hi hc hl' ho =>
    obtain ⟨vs, fz, h1, h2, h3, h4, h5, h7, h6⟩ := hh.own hb hi
    refine ⟨_, hh.freeze hb hi, fun _ h => .inl h, ?_, fun b' h => ?_⟩
    · by_cases hz : len.val = 0
      · rw [hz]; exact .ro0 _ _ hz _ _ _
      · rw [ho (by omega)]
        refine .ro (.inr rfl) hl' (fun e he => h5 _ (by rw [addNV_val]; omega)) (fun i j => vs.getD ((off.val + i) * sz + j) undef) (fun i j hi hj => ?_) (fun i j hi hj => ?_) (fun e j he hj => ?_)
        · refine h7 _ ?_
          have : (off.val + i + 1) * sz ≤ n.val * sz := Nat.mul_le_mul_right _ (by omega)
          rw [Nat.add_mul (off.val + i)] at this
          omega
        · have e1 : off.val * sz + i * sz + j = (off.val + i) * sz + j := by rw [Nat.add_mul]
          rw [e1]
          refine cell_of_heap h1 ?_
          rw [h3]
          have : (off.val + i + 1) * sz ≤ C * sz := Nat.mul_le_mul_right _ (by omega)
          rw [Nat.add_mul] at this
          omega
        · have := h6 (addNV Ar.real off e) j (by rw [addNV_val]; omega) hj
          rw [addNV_val] at this
          exact this.mono (fun _ h => .inl h) (fun _ _ => rfl) (fun _ _ h => h)
    · rcases h with h | rfl
      · exact .inl h
      · exact .inr ⟨C, hi⟩
theorem dataList_ok (cs : List SV) : ∀ {I : Nat → Prop} {hp : HF} {p : Prop} {cs' : List SV} {fz : List Nat} {vs : List Value}, dataList Ar.real hp cs = some (p, cs', fz) → p → vs.length = cs.length →
    (∀ j, j < cs.length → Rep w I β (cs.getD j .any) (vs.getD j undef)) → Hp cx I β hp nx w →
    ∃ I', Hp cx I' β (hp.gone fz) nx w ∧ (∀ b, I b → I' b) ∧ cs'.length = cs.length ∧ (∀ j, j < cs.length → Rep w I' Vln.no (cs'.getD j .any) (vs.getD j undef)) ∧ (∀ s ∈ cs', isData s = true) := by
  induction cs with
  | nil =>
    intro I hp p cs' fz vs h hp' hl hr hh
    simp [dataList] at h
    obtain ⟨_, rfl, rfl⟩ := h
    exact ⟨I, hh, fun _ h => h, rfl, fun j hj => by simp at hj, by simp⟩
  | cons s r ih =>
    intro I hp p cs' fz vs h hp' hl hr hh
    cases vs with
    | nil => simp at hl
    | cons v vs =>
      have hs : Rep w I β s v := by simpa using hr 0 (by simp)
      have hrest : ∀ j, j < r.length → Rep w I β (r.getD j .any) (vs.getD j undef) := fun j hj => by simpa using hr (j + 1) (by simp; omega)
      unfold dataList at h
      split at h
      · rename_i hd
        split at h
        · rename_i p' r' fz' hrec
          cases h
          obtain ⟨I', k1, k2, k3, k4, k5⟩ := ih hrec hp' (by simpa using hl) hrest hh
          refine ⟨I', k1, k2, by simp [k3], fun j hj => ?_, fun x hx => ?_⟩
          · cases j with
            | zero => simpa using (hs.data hd).mono k2 (fun _ _ => rfl) (fun _ _ h => h)
            | succ j => simpa using k4 j (by simpa using hj)
          · rcases List.mem_cons.1 hx with rfl | hx
            · exact hd
            · exact k5 x hx
        · cases h
      · split at h
        · rename_i i sz off len _
          split at h
          · rename_i t sz' n f hbk
            split at h
            · rename_i p' r' fz' hbq hrec
              have e : sz' = sz := Nat.eq_of_beq_eq_true hbq
              subst e
              cases h
              obtain ⟨hle, hp''⟩ := hp'
              obtain ⟨I1, m1, m2, m3, _⟩ := rep_ro_of_sl hs hh hbk hle
              obtain ⟨I', k1, k2, k3, k4, k5⟩ := ih hrec hp'' (by simpa using hl) (fun j hj => (hrest j hj).mono m2 (fun _ _ => rfl) (fun _ _ h => h)) m1
              refine ⟨I', k1, fun b hb => k2 b (m2 b hb), by simp [k3], fun j hj => ?_, fun x hx => ?_⟩
              · cases j with
                | zero => simpa using m3.mono k2 (fun _ _ => rfl) (fun _ _ h => h)
                | succ j => simpa using k4 j (by simpa using hj)
              · rcases List.mem_cons.1 hx with rfl | hx
                · rfl
                · exact k5 x hx
            · cases h
          · cases h
        · cases h
end
end Go.Eng
/-
  The symbolic executor: own memory: stores; new blocks.
-/
namespace Go.Eng
def eqNV (a b : NV) : Option Bool :=
  match a, b with
  | .l x, .l y => some (Nat.beq x y)
  | _, _ => none
theorem eqNV_spec {a b : NV} {c : Bool} (h : eqNV a b = some c) : c = true ↔ a.val = b.val := by
  unfold eqNV at h
  split at h <;> cases h
  simp [NV.val]
def pickNV (A : Ar) (x e : NV) (a b : SV) : SV :=
  match eqNV x e with
  | some true => a
  | some false => b
  | none => mergeSV A 4 (A.beqN x.val e.val) a b
theorem pickNV_ok {w : World} {I : Nat → Prop} {β : Vln} {x e : NV} {a b : SV} {v : Value} (h1 : x.val = e.val → Rep w I β a v) (h2 : x.val ≠ e.val → Rep w I β b v) : Rep w I β (pickNV Ar.real x e a b) v := by
  unfold pickNV
  split
  · rename_i h; exact h1 ((eqNV_spec h).1 rfl)
  · rename_i h; exact h2 (fun hh => by have := (eqNV_spec h).2 hh; cases this)
  · refine mergeSV_ok 4 (fun h => h1 ?_) (fun h => h2 ?_)
    · simpa [Ar.real] using h
    · simpa [Ar.real] using h
def updF (A : Ar) (sz : Nat) (e : NV) (o : Nat) (xs : List SV) (f : NV → List SV) : NV → List SV := fun x =>
  (List.range sz).map fun j => match Nat.ble o j && Nat.blt j (o + xs.length) with
    | true => pickNV A x e (xs.getD (j - o) .any) ((f x).getD j .any)
    | false => (f x).getD j .any
abbrev StR := Option (Prop × Nat × Blk × List Nat)
def storeOwn (A : Ar) (hp : HF) (ti : TI) (x v : SV) : StR :=
  match cellsSV v with
  | none => none
  | some xs => match Nat.beq xs.length ti.size with
    | false => none
    | true => match x with
      | .ptr i o => match hp i with
        | some (.cells t cs) => match Nat.ble (o + xs.length) cs.length with
          | true => some (True, i, .cells t (cs.take o ++ xs ++ cs.drop (o + xs.length)), [])
          | false => none
        | _ => none
      | .pe i sz e o => match dataList A hp xs with
        | none => none
        | some (p, ys, fz) => match hp.gone fz i with
          | some (.row t sz' n f) => match Nat.beq sz' sz && Nat.ble (o + xs.length) sz with
            | true => some (p ∧ ltO A e n, i, .row t sz n (updF A sz e o ys f), fz)
            | false => none
          | _ => none
      | _ => none
section
variable {P : Program} {cx : Cx} {w : World} {I : Nat → Prop} {β : Vln} {hp : HF} {nx : Nat}
theorem splice3_getD {α : Type} (cs xs : List α) (o j : Nat) (d : α) (h : o + xs.length ≤ cs.length) (hj : j < cs.length) :
    (cs.take o ++ xs ++ cs.drop (o + xs.length)).getD j d = if o ≤ j ∧ j < o + xs.length then xs.getD (j - o) d else cs.getD j d := by
  have ht : (cs.take o).length = o := by rw [List.length_take]; omega
  simp only [List.getD_eq_getElem?_getD]
  by_cases h1 : j < o
  · rw [if_neg (by omega), List.append_assoc, List.getElem?_append_left (by omega), List.getElem?_take_of_lt h1]
  · by_cases h2 : j < o + xs.length
    · rw [if_pos (by omega), List.getElem?_append_left (by rw [List.length_append]; omega), List.getElem?_append_right (by omega), ht]
    · rw [if_neg (by omega), List.getElem?_append_right (by rw [List.length_append]; omega), List.length_append, ht, List.getElem?_drop]
      congr 2
      omega
theorem storeOwn_ok {t : TypeId} {ti : TI} {x v : SV} {u z : Value} {p : Prop} {i : Nat} {y : Blk} {fz : List Nat} (ht : tiOf P t = some ti) (h : storeOwn Ar.real hp ti x v = some (p, i, y, fz)) (hpp : p)
    (hx : Rep w I β x u) (hv : Rep w I β v z) (hh : Hp cx I β hp nx w) :
    ∃ w' I', (Instr.storeAt t u z).run P w = .ok () w' ∧ Hp cx I' β ((hp.gone fz).upd i (some y)) nx w' ∧ (∀ b, I b → I' b) ∧ (∀ b, I b → w'.heap[b]? = w.heap[b]?) := by
  obtain ⟨inf, d, z0, hi, hd, hz, hsz, hby, hzero, hsh⟩ := tiOf_spec ht
  unfold storeOwn at h
  split at h
  · cases h
  · rename_i xs hxs
    obtain ⟨c1, c2, c3⟩ := cellsSV_spec hv hxs
    split at h
    · cases h
    · rename_i hlen
      have hlen : xs.length = ti.size := Nat.eq_of_beq_eq_true hlen
      split at h
      · rename_i i' o
        cases hx with
        | @ptr _ _ _ b C hb =>
          split at h
          · rename_i bt cs hbk
            split at h
            · rename_i hle
              have hle : o + xs.length ≤ cs.length := Nat.le_of_ble_eq_true hle
              cases h
              obtain ⟨vs, fz, h1, h2, h3, h4⟩ := hh.own hbk hb
              refine ⟨_, I, by simpa [Instr.storeAt, Instr.sureAddr] using run_storeVar_own (P := P) b o bt fz vs w t inf z hi h1 h2 (by omega) (by omega) c3, ?_, fun _ h => h, ?_⟩
              · have hbl : b < w.heap.size := (Array.getElem?_eq_some_iff.1 h1).1
                refine hh.turn hbk hb rfl rfl rfl (putW_size _ _ _) (fun b' hb' => putW_other _ _ _ _ hb') ?_
                have hIw : ∀ b', I b' → (putW w b (.cells (splice vs o z.cells.toList) bt fz)).heap[b']? = w.heap[b']? := by
                  intro b' hb'
                  refine putW_other _ _ _ _ (fun e => ?_)
                  subst e
                  rcases hh.blk _ _ hbk with ⟨b2, C2, q1, q2, q3, q4⟩ | ⟨q1, _⟩
                  · rw [hb] at q1; cases q1; exact q3 hb'
                  · rw [hb] at q1; cases q1
                refine ⟨_, _, putW_same _ _ _ hbl, by rw [splice_size]; exact h2, ?_, ?_⟩
                · rw [splice_size, h3]; simp; omega
                · intro j hj
                  have hj' : j < cs.length := by simp at hj; omega
                  rw [splice3_getD _ _ _ _ _ hle hj', splice_getD _ _ _ _ _ (by simp; omega)]
                  have el : z.cells.toList.length = xs.length := by simp [c1]
                  rw [el]
                  by_cases hc : o ≤ j ∧ j < o + xs.length
                  · rw [if_pos hc, if_pos hc]
                    have := c2 (j - o) (by omega)
                    rw [Array.getD_eq_getD_getElem?, ← Array.getElem?_toList, ← List.getD_eq_getElem?_getD] at this
                    exact this.mono (fun _ h => h) hIw (fun _ _ h => h)
                  · rw [if_neg hc, if_neg hc]
                    exact (h4 j hj').mono (fun _ h => h) hIw (fun _ _ h => h)
              · intro b' hb'
                refine putW_other _ _ _ _ (fun e => ?_)
                subst e
                rcases hh.blk _ _ hbk with ⟨b2, C2, q1, q2, q3, q4⟩ | ⟨q1, _⟩
                · rw [hb] at q1; cases q1; exact q3 hb'
                · rw [hb] at q1; cases q1
            · cases h
          · cases h
      · rename_i i' sz e o
        split at h
        · cases h
        · rename_i p' ys fz' hdl
          split at h
          · rename_i bt sz' n f hbk
            split at h
            · rename_i hc
              simp only [Bool.and_eq_true, Nat.beq_eq, Nat.ble_eq] at hc
              obtain ⟨rfl, hle⟩ := hc
              cases h
              obtain ⟨hp', hlt⟩ := hpp
              have hlt : e.val + 1 ≤ n.val := ltO_ok hlt
              obtain ⟨I', k1, k2, k3, k4, k5⟩ := dataList_ok xs (vs := z.cells.toList) hdl hp' (by simp [c1]) (fun j hj => by
                have := c2 j hj
                rwa [Array.getD_eq_getD_getElem?, ← Array.getElem?_toList, ← List.getD_eq_getElem?_getD] at this) hh
              cases hx with
              | @pe _ _ _ b C _ _ hb =>
                obtain ⟨vs, fz, h1, h2, h3, h4, h5, h7, h6⟩ := k1.own hbk hb
                have hbl : b < w.heap.size := (Array.getElem?_eq_some_iff.1 h1).1
                have el : z.cells.toList.length = xs.length := by simp [c1]
                have hmul : (e.val + 1) * sz' ≤ n.val * sz' := Nat.mul_le_mul_right _ hlt
                have hmul2 : n.val * sz' ≤ C * sz' := Nat.mul_le_mul_right _ h4
                rw [Nat.add_mul] at hmul
                have hIw : ∀ b', I' b' → (putW w b (.cells (splice vs (e.val * sz' + o) z.cells.toList) bt fz)).heap[b']? = w.heap[b']? := by
                  intro b' hb'
                  refine putW_other _ _ _ _ (fun e => ?_)
                  subst e
                  rcases k1.blk _ _ hbk with ⟨b2, C2, q1, q2, q3, q4⟩ | ⟨q1, _⟩
                  · rw [hb] at q1; cases q1; exact q3 hb'
                  · rw [hb] at q1; cases q1
                refine ⟨_, I', by simpa [Instr.storeAt, Instr.sureAddr] using run_storeVar_own (P := P) b (e.val * sz' + o) bt fz vs w t inf z hi h1 h2 (by omega) (by rw [h3]; omega) c3, ?_, k2, fun b' hb' => hIw b' (k2 b' hb')⟩
                refine k1.turn hbk hb rfl rfl rfl (putW_size _ _ _) (fun b' hb' => putW_other _ _ _ _ hb') ?_
                have hget : ∀ k, (splice vs (e.val * sz' + o) z.cells.toList).getD k undef = if e.val * sz' + o ≤ k ∧ k < e.val * sz' + o + xs.length then z.cells.toList.getD (k - (e.val * sz' + o)) undef else vs.getD k undef := by
                  intro k
                  rw [splice_getD _ _ _ _ _ (by rw [el, h3]; omega), el]
                refine ⟨_, _, putW_same _ _ _ hbl, by rw [splice_size]; exact h2, by rw [splice_size]; exact h3, h4, fun x _ => by simp [updF], ?_, ?_⟩
                · intro k hk
                  rw [hget]
                  split
                  · rename_i hin
                    refine c3 _ ?_
                    rw [List.getD_eq_getElem?_getD, List.getElem?_eq_getElem (by omega)]
                    exact List.getElem_mem _
                  · exact h7 k hk
                · intro x j hx hj
                  rw [hget]
                  have hdist : x.val ≠ e.val → x.val * sz' + sz' ≤ e.val * sz' ∨ e.val * sz' + sz' ≤ x.val * sz' := by
                    intro hne
                    rcases Nat.lt_or_gt_of_ne hne with hl | hl
                    · left
                      have : (x.val + 1) * sz' ≤ e.val * sz' := Nat.mul_le_mul_right _ hl
                      rwa [Nat.add_mul, Nat.one_mul] at this
                    · right
                      have : (e.val + 1) * sz' ≤ x.val * sz' := Nat.mul_le_mul_right _ hl
                      rwa [Nat.add_mul, Nat.one_mul] at this
                  have hold := (h6 x j hx hj).mono (fun _ h => h) hIw (fun _ _ h => h)
                  unfold updF
                  rw [mk_getD (l := ([] : List SV)) _ _ _ _ hj]
                  split
                  · rename_i hin
                    simp only [Bool.and_eq_true, Nat.ble_eq, Nat.blt_eq] at hin
                    rw [k3] at hin
                    refine pickNV_ok (fun he => ?_) (fun hne => ?_)
                    · rw [he, if_pos (by omega), show e.val * sz' + j - (e.val * sz' + o) = j - o by omega]
                      exact (k4 (j - o) (by omega)).mono (fun _ h => h) hIw (fun _ _ h => h)
                    · have := hdist hne
                      rw [if_neg (by omega)]
                      exact hold
                  · rename_i hin
                    have hin' : ¬ (o ≤ j ∧ j < o + xs.length) := by
                      intro hc
                      have : (Nat.ble o j && Nat.blt j (o + ys.length)) = true := by simp [Nat.ble_eq, Nat.blt_eq, k3]; exact hc
                      rw [this] at hin; cases hin
                    by_cases he : x.val = e.val
                    · rw [he] at hold ⊢
                      rw [if_neg (by omega)]
                      exact hold
                    · have := hdist he
                      rw [if_neg (by omega)]
                      exact hold
            · cases h
          · cases h
      · cases h
end
end Go.Eng
/-
  The symbolic executor: new blocks: variables, struct and slice literals, make.
-/
namespace Go.Eng
abbrev Vln.put (β : Vln) (n b C : Nat) : Vln := fun i => if i = n then some (b, C) else β i
section
variable {P : Program} {cx : Cx} {w : World} {I : Nat → Prop} {β : Vln} {hp : HF} {nx : Nat}
theorem put_ext {n b C : Nat} (hn : β n = none) : ∀ i x, β i = some x → β.put n b C i = some x := by
  intro i y hy
  by_cases e : i = n
  · subst e; rw [hn] at hy; cases hy
  · simp only [Vln.put, if_neg e]; exact hy
theorem alloc_old (w : World) (o : Obj) (b : Nat) (hb : b < w.heap.size) : (w.alloc o).heap[b]? = w.heap[b]? := by
  show (w.heap.push o)[b]? = _
  rw [Array.getElem?_push, if_neg (by omega)]
theorem alloc_new (w : World) (o : Obj) : (w.alloc o).heap[w.heap.size]? = some o := by
  show (w.heap.push o)[w.heap.size]? = _
  simp
theorem noFz0 (n : Nat) : NoFz n (0, 0) := .inl rfl
structure Made (cx : Cx) (I : Nat → Prop) (β : Vln) (hp : HF) (nx : Nat) (w : World) (n : Nat) (x : Blk) (C : Nat) (w' : World) : Prop where
  hp : Hp cx I (β.put n w.heap.size C) (hp.upd n (some x)) nx w'
  ext : ∀ i y, β i = some y → β.put n w.heap.size C i = some y
  keep : ∀ b, I b → w'.heap[b]? = w.heap[b]?
theorem made_cells (hh : Hp cx I β hp nx w) {n : Nat} (hn : β n = none) (hin : hp n = none) (hnx : n < nx) (t : TypeId) {cs : List SV} {vs : Array Value} (hl : vs.size = cs.length)
    (hr : ∀ j, j < cs.length → Rep w I β (cs.getD j .any) (vs.getD j undef)) (C : Nat) : Made cx I β hp nx w n (.cells t cs) C (w.alloc (.cells vs t)) where
  hp := hh.alloc hn hin hnx ⟨vs, (0, 0), alloc_new w _, noFz0 _, hl, fun j hj => (hr j hj).mono (fun _ h => h) (fun b hb => alloc_old w _ b (hh.ilt b hb)) (put_ext hn)⟩
  ext := put_ext hn
  keep := fun b hb => alloc_old w _ b (hh.ilt b hb)
theorem made_row (hh : Hp cx I β hp nx w) {n : Nat} (hn : β n = none) (hin : hp n = none) (hnx : n < nx) (t : TypeId) {sz C : Nat} {m : NV} {f : NV → List SV} {vs : Array Value} (hl : vs.size = C * sz) (hm : m.val ≤ C)
    (hf : ∀ e : NV, e.val < m.val → (f e).length = sz) (h1 : ∀ k, k < m.val * sz → (vs.getD k undef).oneCell' = true)
    (hr : ∀ (e : NV) (j : Nat), e.val < m.val → j < sz → Rep w I Vln.no ((f e).getD j .any) (vs.getD (e.val * sz + j) undef)) : Made cx I β hp nx w n (.row t sz m f) C (w.alloc (.cells vs t)) where
  hp := hh.alloc hn hin hnx ⟨vs, (0, 0), alloc_new w _, noFz0 _, hl, hm, hf, h1, fun e j he hj => (hr e j he hj).mono (fun _ h => h) (fun b hb => alloc_old w _ b (hh.ilt b hb)) (fun _ _ h => h)⟩
  ext := put_ext hn
  keep := fun b hb => alloc_old w _ b (hh.ilt b hb)
theorem zero_rep {z : Value} (j : Nat) (hj : j < (z.cells.toList.map svOfV).length) : Rep w I β ((z.cells.toList.map svOfV).getD j .any) (z.cells.getD j undef) := by
  simp at hj
  have e1 : (z.cells.toList.map svOfV).getD j .any = svOfV z.cells[j] := by simp [List.getD_eq_getElem?_getD, hj]
  have e2 : z.cells.getD j undef = z.cells[j] := by rw [Array.getD_eq_getD_getElem?]; simp [hj]
  rw [e1, e2]
  exact svOfV_rep _ _ _ _
theorem run_alloc {t : TypeId} {inf : TypeInfo} {z : Value} (hi : P.info? t = some inf) (hz : inf.zero = some z) :
    (Instr.alloc t true (.tuple #[])).run P w = .ok (.pointer (some ⟨w.heap.size, 0, none⟩)) (w.alloc (.cells z.cells t)) := by
  simp [Instr.alloc, zeroValue, typeInfo, hi, hz, newVar, newRow]
theorem run_box {t : TypeId} {v : Value} : (Instr.box t v).run P w = .ok (.pointer (some ⟨w.heap.size, 0, none⟩)) (w.alloc (.cells v.cells t)) := by
  simp [Instr.box, newVar, newRow]
end
def fillSV (place : Nat → Option (Nat × Nat)) : List SV → List (Nat × SV) → Option (List SV)
  | cs, [] => some cs
  | cs, (i, x) :: r => match place i, cellsSV x with
    | some (off, size), some xs => match Nat.beq xs.length size && Nat.ble (off + size) cs.length with
      | true => fillSV place (cs.take off ++ xs ++ cs.drop (off + xs.length)) r
      | false => none
    | _, _ => none
theorem foldl_splice (l : List Value) : ∀ (k off : Nat) (cells : Array Value), (l.zipIdx k).foldl (fun cs x => cs.setIfInBounds (off + x.2) x.1) cells = splice cells (off + k) l := by
  induction l with
  | nil => intro k off cells; rfl
  | cons x l ih =>
    intro k off cells
    simp only [List.zipIdx_cons, List.foldl_cons, splice]
    rw [ih]
    rfl
theorem zipIdx_foldl (a : Array Value) (off : Nat) (cells : Array Value) : a.zipIdx.foldl (fun cs (c, j) => cs.setIfInBounds (off + j) c) cells = splice cells off a.toList := by
  have := foldl_splice a.toList 0 off cells
  rw [← Array.foldl_toList]
  simpa using this
section
variable {P : Program} {cx : Cx} {w : World} {I : Nat → Prop} {β : Vln} {hp : HF} {nx : Nat}
theorem toList_getD (a : Array Value) (j : Nat) : a.toList.getD j undef = a.getD j undef := by
  rw [Array.getD_eq_getD_getElem?, ← Array.getElem?_toList, ← List.getD_eq_getElem?_getD]
theorem fillSV_ok (place : Nat → Option (Nat × Nat)) (ps : List (Nat × SV)) : ∀ {cs cs' : List SV} {cells : Array Value} {vs : List (Nat × Value)}, fillSV place cs ps = some cs' → vs.length = ps.length →
    (∀ j (hj : j < ps.length) (hj' : j < vs.length), vs[j].1 = ps[j].1 ∧ Rep w I β ps[j].2 vs[j].2) → cells.size = cs.length → (∀ j, j < cs.length → Rep w I β (cs.getD j .any) (cells.getD j undef)) → (∀ j, j < cs.length → (cells.getD j undef).oneCell' = true) →
    ∃ cells', Instr.fill place cells vs = some cells' ∧ cells'.size = cs'.length ∧ cs'.length = cs.length ∧ (∀ j, j < cs'.length → Rep w I β (cs'.getD j .any) (cells'.getD j undef)) ∧ (∀ j, j < cs'.length → (cells'.getD j undef).oneCell' = true) := by
  induction ps with
  | nil =>
    intro cs cs' cells vs h hl hr hs hc h1
    cases vs with
    | cons _ _ => simp at hl
    | nil =>
      cases h
      exact ⟨cells, rfl, hs, rfl, hc, h1⟩
  | cons p ps ih =>
    intro cs cs' cells vs h hl hr hs hc h1
    obtain ⟨i, x⟩ := p
    cases vs with
    | nil => simp at hl
    | cons q vs =>
      obtain ⟨i', v⟩ := q
      obtain ⟨e1, hv⟩ := hr 0 (by simp) (by simp)
      simp only [List.getElem_cons_zero] at e1 hv
      subst e1
      unfold fillSV at h
      split at h
      · rename_i off size xs hpl hxs
        split at h
        · rename_i hcnd
          simp only [Bool.and_eq_true, Nat.beq_eq, Nat.ble_eq] at hcnd
          obtain ⟨rfl, hle⟩ := hcnd
          obtain ⟨c1, c2, c3⟩ := cellsSV_spec hv hxs
          have el : v.cells.toList.length = xs.length := by simp [c1]
          have hlen : (cs.take off ++ xs ++ cs.drop (off + xs.length)).length = cs.length := by simp; omega
          obtain ⟨cells', k1, k2, k3, k4, k5⟩ := ih (vs := vs) (cells := splice cells off v.cells.toList) h (by simpa using hl) (fun j hj hj' => by
              have := hr (j + 1) (by simp; omega) (by simp; omega)
              simpa using this) (by rw [splice_size, hs, hlen]) (fun j hj => by
              rw [hlen] at hj
              rw [splice3_getD _ _ _ _ _ hle hj, splice_getD _ _ _ _ _ (by omega), el]
              split
              · rw [toList_getD]; exact c2 _ (by omega)
              · exact hc j hj) (fun j hj => by
              rw [hlen] at hj
              rw [splice_getD _ _ _ _ _ (by omega), el]
              split
              · refine c3 _ ?_
                rw [List.getD_eq_getElem?_getD, List.getElem?_eq_getElem (by omega)]
                exact List.getElem_mem _
              · exact h1 j hj)
          refine ⟨cells', ?_, k2, k3.trans hlen, k4, k5⟩
          unfold Instr.fill
          simp only [hpl, zipIdx_foldl]
          have hcs : v.cells.size = xs.length := c1
          rw [if_neg (by simp; omega)]
          exact k1
        · cases h
      · cases h
end
end Go.Eng
/-
  The symbolic executor: build, buildSlice, makeSlice, box, alloc.
-/
namespace Go.Eng
def structPlaces (T : Tab) : List (Nat × Nat) → Option (List (Nat × Nat))
  | [] => some []
  | (off, ty) :: r => match T.get ty, structPlaces T r with
    | some ti, some l => some ((off, ti.size) :: l)
    | _, _ => none
def buildSV (T : Tab) (ti : TI) (parts : List (Nat × SV)) : Option SV :=
  match ti.zero.all isOne with
  | false => none
  | true => match ti.shape with
    | .struct fs => match structPlaces T fs with
      | some l => (fillSV (fun i => l[i]?) ti.zero parts).map .agg
      | none => none
    | .array _ e => match T.get e with
      | some te => (fillSV (fun i => some (i * te.size, te.size)) ti.zero parts).map .agg
      | none => none
    | _ => none
def chunk (sz : Nat) (cs : List SV) : NV → List SV := fun e => (cs.drop (e.val * sz)).take sz
def zerosSV (z : List SV) : Nat → List SV
  | 0 => []
  | n + 1 => z ++ zerosSV z n
def buildSliceSV (A : Ar) (hp : HF) (te : TI) (len : Nat) (parts : List (Nat × SV)) : Option (Prop × List SV × List Nat) :=
  match te.zero.all isOne && Nat.beq te.zero.length te.size && Nat.blt 0 te.size && Nat.ble (len * te.size) 16777216 with
  | false => none
  | true => match fillSV (fun i => some (i * te.size, te.size)) (zerosSV te.zero len) parts with
    | some cs => dataList A hp cs
    | none => none
section
variable {P : Program} {cx : Cx} {w : World} {I : Nat → Prop} {β : Vln} {hp : HF} {nx : Nat}
theorem run_mapM_list {α γ : Type} (g : α → Sem γ) (r : α → γ) (l : List α) (h : ∀ x ∈ l, ∀ w, (g x).run P w = .ok (r x) w) (w : World) : (l.mapM g).run P w = .ok (l.map r) w := by
  induction l with
  | nil => simp
  | cons x l ih => simp [List.mapM_cons, h x (by simp), ih (fun y hy => h y (by simp [hy]))]
theorem structPlaces_spec {T : Tab} (hT : T.Ok P) (fs : List Field) : ∀ {l : List (Nat × Nat)}, structPlaces T (fs.map fun f => (f.offset, f.type)) = some l →
    ∃ r : Field → Nat × Nat, (∀ f ∈ fs, ∀ w, ((do pure (f.offset, ← sizeOf f.type)) : Sem (Nat × Nat)).run P w = .ok (r f) w) ∧ l = fs.map r := by
  intro l h
  refine ⟨fun f => (f.offset, ((P.info? f.type).map (·.size)).getD 0), ?_⟩
  induction fs generalizing l with
  | nil => simp [structPlaces] at h; subst h; simp
  | cons f fs ih =>
    simp only [List.map_cons, structPlaces] at h
    split at h
    · rename_i ti l' hti hl'
      cases h
      obtain ⟨inf, d, z, hi, hd, hz, hs, _⟩ := tiOf_spec (hT.get hti)
      obtain ⟨k1, k2⟩ := ih hl'
      refine ⟨fun x hx w => ?_, ?_⟩
      · rcases List.mem_cons.1 hx with rfl | hx
        · simp [sizeOf, typeInfo, hi]
        · exact k1 x hx w
      · simp [hi, hs, k2]
    · cases h
theorem one_of_svOfV {v : Value} (h : isOne (svOfV v) = true) : v.oneCell' = true := by
  cases v with
  | agg _ => cases h
  | tuple _ => cases h
  | _ => rfl
theorem zero_one {z : Value} (h : (z.cells.toList.map svOfV).all isOne = true) (j : Nat) (hj : j < z.cells.size) : (z.cells.getD j undef).oneCell' = true := by
  have e2 : z.cells.getD j undef = z.cells[j] := by rw [Array.getD_eq_getD_getElem?]; simp [hj]
  rw [e2]
  refine one_of_svOfV (List.all_eq_true.1 h _ ?_)
  simp
  exact ⟨_, Array.getElem_mem _, rfl⟩
theorem buildSV_ok {T : Tab} (hT : T.Ok P) {t : TypeId} {ti : TI} {parts : List (Nat × SV)} {vs : List (Nat × Value)} {r : SV} (ht : tiOf P t = some ti) (h : buildSV T ti parts = some r)
    (hl : vs.length = parts.length) (hr : ∀ j (hj : j < parts.length) (hj' : j < vs.length), vs[j].1 = parts[j].1 ∧ Rep w I β parts[j].2 vs[j].2) :
    ∃ z, (Instr.build t vs.toArray).run P w = .ok z w ∧ Rep w I β r z := by
  obtain ⟨inf, d, z0, hi, hd, hz, hsz, hby, hzero, hsh⟩ := tiOf_spec ht
  unfold buildSV at h
  split at h
  · cases h
  · rename_i hall
    rw [hzero] at hall h
    have hz1 := zero_one hall
    split at h
    · rename_i fs hs
      rw [hsh] at hs
      have : ∃ fa : Array Field, d = .struct fa ∧ fs = fa.toList.map fun f => (f.offset, f.type) := by
        cases d <;> simp [shapeOf] at hs
        exact ⟨_, rfl, hs.symm⟩
      obtain ⟨fa, rfl, rfl⟩ := this
      split at h
      · rename_i l hpl
        obtain ⟨rr, k1, k2⟩ := structPlaces_spec hT fa.toList hpl
        cases hf : fillSV (fun i => l[i]?) (z0.cells.toList.map svOfV) parts with
        | none => rw [hf] at h; cases h
        | some cs =>
          rw [hf] at h
          cases h
          obtain ⟨cells, m1, m2, m3, m4, m5⟩ := fillSV_ok _ parts hf hl hr (by simp) (fun j hj => zero_rep j hj) (fun j hj => hz1 j (by simpa using hj))
          refine ⟨.agg cells, ?_, .agg m2 m4⟩
          have hm : ∀ w : World, (fa.mapM fun f => do pure (f.offset, ← sizeOf f.type) : Sem (Array (Nat × Nat))).run P w = .ok (fa.toList.map rr).toArray w := by
            intro w
            rw [Array.mapM_eq_mapM_toList]
            simp only [Sem.run_map]
            rw [run_mapM_list _ rr _ (fun f hf => k1 f hf)]
            rfl
          simp only [Instr.build, Sem.run_bind, zeroValue, typeInfo]
          simp only [run_program, Sem.run_bind, Sem.run_pure, Result.andThen_ok, hi, hz, run_underlying hd, hm]
          have e : (fun x : Nat => (fa.toList.map rr).toArray[x]?) = fun i : Nat => l[i]? := by funext i; simp [k2]
          rw [e, m1]
          simp
      · cases h
    · rename_i n e hs
      rw [hsh] at hs
      have : d = .array n e := by cases d <;> simp [shapeOf] at hs; obtain ⟨rfl, rfl⟩ := hs; rfl
      subst this
      split at h
      · rename_i te hte
        obtain ⟨inf2, d2, z2, hi2, hd2, hz2, hs2, _⟩ := tiOf_spec (hT.get hte)
        cases hf : fillSV (fun i => some (i * te.size, te.size)) (z0.cells.toList.map svOfV) parts with
        | none => rw [hf] at h; cases h
        | some cs =>
          rw [hf] at h
          cases h
          obtain ⟨cells, m1, m2, m3, m4, m5⟩ := fillSV_ok _ parts hf hl hr (by simp) (fun j hj => zero_rep j hj) (fun j hj => hz1 j (by simpa using hj))
          refine ⟨.agg cells, ?_, .agg m2 m4⟩
          simp only [Instr.build, Sem.run_bind, zeroValue, typeInfo]
          simp only [run_program, Sem.run_bind, Sem.run_pure, Result.andThen_ok, hi, hz, run_underlying hd, sizeOf, typeInfo, hi2, hs2]
          rw [m1]
          simp
      · cases h
    · cases h
end
end Go.Eng
/-
  The symbolic executor: slice literals, make, append, copy.
-/
namespace Go.Eng
section
variable {P : Program} {cx : Cx} {w : World} {I : Nat → Prop} {β : Vln} {hp : HF} {nx : Nat}
theorem zerosSV_length (z : List SV) (n : Nat) : (zerosSV z n).length = n * z.length := by
  induction n with
  | zero => simp [zerosSV]
  | succ n ih => rw [zerosSV, List.length_append, ih, Nat.add_mul]; omega
theorem zerosSV_getD (z : List SV) (hz : 0 < z.length) (n j : Nat) (d : SV) (h : j < n * z.length) : (zerosSV z n).getD j d = z.getD (j % z.length) d := by
  induction n generalizing j with
  | zero => simp at h
  | succ n ih =>
    rw [Nat.add_mul, Nat.one_mul] at h
    rw [zerosSV]
    by_cases hj : j < z.length
    · rw [List.getD_eq_getElem?_getD, List.getElem?_append_left hj, ← List.getD_eq_getElem?_getD, Nat.mod_eq_of_lt hj]
    · rw [List.getD_eq_getElem?_getD, List.getElem?_append_right (by omega), ← List.getD_eq_getElem?_getD, ih _ (by omega)]
      congr 1
      exact (Nat.mod_eq_sub_mod (by omega)).symm
theorem zeroArr_getD (z : Array Value) (hz : 0 < z.size) (n j : Nat) (h : j < n) : ((Array.range n).map (z[· % z.size]!)).getD j undef = z.getD (j % z.size) undef := by
  have hm : j % z.size < z.size := Nat.mod_lt _ hz
  rw [Array.getD_eq_getD_getElem?, Array.getD_eq_getD_getElem?]
  simp [h, hm]
theorem chunk_getD (sz : Nat) (cs : List SV) (e : NV) (j : Nat) (hj : j < sz) : (chunk sz cs e).getD j .any = cs.getD (e.val * sz + j) .any := by
  unfold chunk
  rw [take_getD _ _ _ _ hj, drop_getD]
theorem chunk_length (sz : Nat) (cs : List SV) (e : NV) (n : Nat) (h : cs.length = n * sz) (he : e.val < n) : (chunk sz cs e).length = sz := by
  unfold chunk
  have : (e.val + 1) * sz ≤ n * sz := Nat.mul_le_mul_right _ he
  rw [Nat.add_mul] at this
  simp only [List.length_take, List.length_drop]
  omega
def intsOf : List SV → Option (IntKind × List Int)
  | [] => none
  | [s] => match intOfSV s with
    | some (k, n) => some (k, [n])
    | none => none
  | s :: r => match intOfSV s, intsOf r with
    | some (k, n), some (k', ns) => match kEq k k' with
      | true => some (k, n :: ns)
      | false => none
    | _, _ => none
def chunkS (A : Ar) (sz : Nat) (cs : List SV) : NV → List SV := fun e =>
  match e with
  | .l k => chunk sz cs (.l k)
  | .s k => match sz with
    | 1 => match intsOf cs with
      | some (kd, ns) => [.int kd (A.sel k ns)]
      | none => match cs with
        | [s] => [s]
        | cs => chunk 1 cs (.s k)
    | sz => chunk sz cs (.s k)
theorem intsOf_get : ∀ (cs : List SV) (kd : IntKind) (ns : List Int), intsOf cs = some (kd, ns) → ∀ k, k < cs.length → intOfSV (cs.getD k .any) = some (kd, ns.getD k 0) := by
  intro cs
  induction cs with
  | nil => intro kd ns h; cases h
  | cons s r ih =>
    intro kd ns h k hk
    cases r with
    | nil =>
      simp only [intsOf] at h
      split at h
      · rename_i k' n hs
        cases h
        obtain rfl : k = 0 := by simp at hk; omega
        simpa using hs
      · cases h
    | cons s2 r2 =>
      unfold intsOf at h
      split at h
      · rename_i k1 n1 k2 ns2 hs hr
        split at h
        · rename_i he
          have he := kEq_spec he
          subst he
          cases h
          cases k with
          | zero => simpa using hs
          | succ k => simpa using ih _ _ hr k (by simpa using hk)
        · cases h
      · cases h
theorem chunkS_len (sz : Nat) (cs : List SV) (e : NV) (n : Nat) (h : cs.length = n * sz) (he : e.val < n) : (chunkS Ar.real sz cs e).length = sz := by
  unfold chunkS
  split
  · exact chunk_length _ _ _ n h he
  · split
    · split
      · rfl
      · split
        · rfl
        · exact chunk_length _ _ _ n h he
    · exact chunk_length _ _ _ n h he
theorem chunkS_rep {w : World} {I : Nat → Prop} {β : Vln} (sz : Nat) (cs : List SV) (e : NV) (j n : Nat) (hl : cs.length = n * sz) (he : e.val < n) (hj : j < sz) {v : Value} (h : Rep w I β (cs.getD (e.val * sz + j) .any) v) : Rep w I β ((chunkS Ar.real sz cs e).getD j .any) v := by
  unfold chunkS
  split
  · rw [chunk_getD _ _ _ _ hj]; exact h
  · rename_i k
    split
    · split
      · rename_i kd ns hi
        obtain rfl : j = 0 := by omega
        simp only [NV.val, Nat.mul_one, Nat.add_zero] at h he
        have := intsOf_get cs kd ns hi k (by omega)
        have hv := intOfSV_spec h this
        rw [hv]
        exact .int _ _
      · split
        · simp only [List.length_cons, List.length_nil] at hl
          have hk : k = 0 := by have : k < n := he; omega
          subst hk
          simpa [NV.val] using h
        · rw [chunk_getD _ _ _ _ hj]; exact h
    · rw [chunk_getD _ _ _ _ hj]; exact h
theorem buildSliceSV_ok {T : Tab} (hT : T.Ok P) {t e : TypeId} {te : TI} {len : Nat} {parts : List (Nat × SV)} {vs : List (Nat × Value)} {p : Prop} {cs : List SV} {fz : List Nat}
    (ht : P.underlying t = some (.slice e)) (hte : tiOf P e = some te) (h : buildSliceSV Ar.real hp te len parts = some (p, cs, fz)) (hpp : p)
    (hl : vs.length = parts.length) (hr : ∀ j (hj : j < parts.length) (hj' : j < vs.length), vs[j].1 = parts[j].1 ∧ Rep w I β parts[j].2 vs[j].2)
    (hh : Hp cx I β hp nx w) {n : Nat} (hn : β n = none) (hin : hp.gone fz n = none) (hnx : n < nx) :
    ∃ w' I', (Instr.buildSlice t len vs.toArray).run P w = .ok (.slice (some ⟨w.heap.size, 0, none⟩) len len) w' ∧ Made cx I' β (hp.gone fz) nx w n (.row e te.size (.l len) (chunkS Ar.real te.size cs)) len w' ∧ (∀ b, I b → I' b) := by
  obtain ⟨inf, d, z0, hi, hd, hz, hsz, hby, hzero, hsh⟩ := tiOf_spec hte
  unfold buildSliceSV at h
  split at h
  · cases h
  · rename_i hc
    simp only [Bool.and_eq_true, Nat.beq_eq, Nat.blt_eq, Nat.ble_eq] at hc
    obtain ⟨⟨⟨hall, hzl⟩, hpos⟩, hbig⟩ := hc
    split at h
    · rename_i cs0 hf
      have hz1 := zero_one (z := z0) (by rw [← hzero]; exact hall)
      have hzs : z0.cells.size = te.size := by rw [hzero] at hzl; simpa using hzl
      have hinit : ∀ j, j < (zerosSV te.zero len).length → Rep w I β ((zerosSV te.zero len).getD j .any) (((Array.range (len * te.size)).map (z0.cells[· % z0.cells.size]!)).getD j undef) ∧ (((Array.range (len * te.size)).map (z0.cells[· % z0.cells.size]!)).getD j undef).oneCell' = true := by
        intro j hj
        rw [zerosSV_length, hzl] at hj
        rw [zerosSV_getD _ (by omega) _ _ _ (by rw [hzl]; exact hj), zeroArr_getD _ (by omega) _ _ hj, hzl, hzs]
        have hm : j % te.size < te.size := Nat.mod_lt _ hpos
        refine ⟨?_, hz1 _ (by omega)⟩
        have := zero_rep (w := w) (I := I) (β := β) (z := z0) (j % te.size) (by simp; omega)
        rw [← hzero] at this
        exact this
      obtain ⟨cells, m1, m2, m3, m4, m5⟩ := fillSV_ok (w := w) (I := I) (β := β) _ parts hf hl hr (cells := (Array.range (len * te.size)).map (z0.cells[· % z0.cells.size]!)) (by rw [zerosSV_length, hzl]; simp) (fun j hj => (hinit j hj).1) (fun j hj => (hinit j hj).2)
      obtain ⟨I', k1, k2, k3, k4, k5⟩ := dataList_ok cs0 (vs := cells.toList) h hpp (by simp [m2]) (fun j hj => by rw [toList_getD]; exact m4 j hj) hh
      have hcl : cs.length = len * te.size := by rw [k3, m3, zerosSV_length, hzl]
      refine ⟨_, I', ?_, made_row k1 hn hin hnx e (vs := cells) (C := len) (by rw [m2, ← k3, hcl]) (Nat.le_refl _) (fun x hx => chunkS_len _ _ _ len hcl hx) (fun k hk => m5 k (by rw [← k3, hcl]; exact hk)) (fun x j hx hj => ?_), k2⟩
      · simp only [Instr.buildSlice, Sem.run_bind, run_underlying ht, Result.andThen_ok, sizeOf, typeInfo, run_program, Sem.run_pure, hi, hsz]
        rw [if_neg (by simp; omega)]
        by_cases h0 : len * te.size = 0
        · rw [if_pos h0]
          have e0 : (Array.range (len * te.size)).map (z0.cells[· % z0.cells.size]!) = (Array.range (len * te.size)).map ((#[] : Array Value)[· % (#[] : Array Value).size]!) := by rw [h0]; simp
          rw [e0] at m1
          rw [Sem.run_bind]
          simp only [Sem.run_pure, Result.andThen_ok]
          rw [m1]
          simp [newRow]
        · rw [if_neg h0]
          rw [Sem.run_bind]
          simp only [zeroValue, typeInfo, Sem.run_bind, run_program, Sem.run_pure, Result.andThen_ok, hi, hz]
          rw [m1]
          simp [newRow]
      · have hlt : x.val * te.size + j < cs0.length := by
          rw [← k3, hcl]
          have : (x.val + 1) * te.size ≤ len * te.size := Nat.mul_le_mul_right _ hx
          rw [Nat.add_mul] at this
          omega
        have := k4 _ hlt
        rw [toList_getD] at this
        exact chunkS_rep _ _ _ _ len hcl hx hj this
    · cases h
end
def roomN (A : Ar) (n bytes : Nat) : Prop := A.leN (A.mulN n bytes) 140737488355328
def makeSV (A : Ar) (te : TI) (x c : SV) : Option (Prop × NV) :=
  match te.zero.all isOne && Nat.beq te.zero.length te.size && Nat.blt 0 te.size && Nat.blt 0 te.bytes with
  | false => none
  | true => match ixSV A x, ixSV A c with
    | some (n, e), some (m, e') => some (A.nn n ∧ A.nn m ∧ leNV A e e' ∧ roomN A e'.val te.bytes, e)
    | _, _ => none
section
variable {P : Program} {cx : Cx} {w : World} {I : Nat → Prop} {β : Vln} {hp : HF} {nx : Nat}
theorem wrap_small {n : Int} (h0 : 0 ≤ n) (h1 : n ≤ 140737488355328) : IntKind.i64.wrap n = n := by
  rw [IntKind.wrap_i64]; omega
theorem makeSV_ok {t e : TypeId} {te : TI} {x c : SV} {u v : Value} {p : Prop} {m : NV} (ht : P.underlying t = some (.slice e)) (hte : tiOf P e = some te) (h : makeSV Ar.real te x c = some (p, m)) (hpp : p)
    (hx : Rep w I β x u) (hc : Rep w I β c v) (hh : Hp cx I β hp nx w) {n : Nat} (hn : β n = none) (hin : hp n = none) (hnx : n < nx) :
    ∃ w' C, m.val ≤ C ∧ (Instr.makeSlice t u v).run P w = .ok (.slice (some ⟨w.heap.size, 0, none⟩) m.val C) w' ∧ Made cx I β hp nx w n (.row e te.size m (fun _ => te.zero)) C w' := by
  obtain ⟨inf, d, z0, hi, hd, hz, hsz, hby, hzero, hsh⟩ := tiOf_spec hte
  unfold makeSV at h
  split at h
  · cases h
  · rename_i hcnd
    simp only [Bool.and_eq_true, Nat.beq_eq, Nat.blt_eq] at hcnd
    obtain ⟨⟨⟨hall, hzl⟩, hpos⟩, hbpos⟩ := hcnd
    split at h
    · rename_i a e1 b e2 h1 h2
      cases h
      obtain ⟨⟨k1, rfl⟩, q1⟩ := ixSV_spec h1 hx
      obtain ⟨⟨k2, rfl⟩, q2⟩ := ixSV_spec h2 hc
      obtain ⟨p1, p2, p3, p4⟩ := hpp
      have p1 : 0 ≤ a := p1
      have p2 : 0 ≤ b := p2
      have p3 : m.val ≤ e2.val := p3
      have p4 : e2.val * te.bytes ≤ 140737488355328 := p4
      have hz1 := zero_one (z := z0) (by rw [← hzero]; exact hall)
      have hzs : z0.cells.size = te.size := by rw [hzero] at hzl; simpa using hzl
      have hcap : e2.val ≤ 140737488355328 := by
        have : e2.val * 1 ≤ e2.val * te.bytes := Nat.mul_le_mul_left _ hbpos
        omega
      have wa : IntKind.i64.wrap a = a := wrap_small p1 (by omega)
      have wb : IntKind.i64.wrap b = b := wrap_small p2 (by omega)
      have hbytes : (te.bytes : Int) * b ≤ 281474976710656 := by
        have e : b = (e2.val : Int) := by omega
        rw [e]
        have : ((te.bytes * e2.val : Nat) : Int) ≤ 281474976710656 := by rw [Nat.mul_comm]; omega
        simpa using this
      refine ⟨_, e2.val, p3, ?_, made_row hh hn hin hnx e (vs := (Array.range (e2.val * te.size)).map (z0.cells[· % z0.cells.size]!)) (C := e2.val) (by simp) p3 (fun x hx => hzl) (fun k hk => ?_) (fun x j hx hj => ?_)⟩
      · simp only [Instr.makeSlice, Sem.run_bind, run_underlying ht, Result.andThen_ok, asInt, asIntOf, Sem.run_pure, typeInfo, run_program, hi, wa, wb]
        rw [if_neg (by simp [hby]; omega)]
        have hb2 : b.toNat = e2.val := q2.symm
        simp only [Sem.run_bind, askRoom, hb2, sizeOf, typeInfo, run_program, Sem.run_pure, Result.andThen_ok, hi, hsz, hby]
        rw [if_neg (by simp [roomBytes]; omega)]
        simp only [Sem.run_pure, Result.andThen_ok]
        by_cases h0 : e2.val * te.size = 0
        · rw [if_pos h0]
          have e0 : (Array.range (e2.val * te.size)).map (z0.cells[· % z0.cells.size]!) = (Array.range (e2.val * te.size)).map ((#[] : Array Value)[· % (#[] : Array Value).size]!) := by rw [h0]; simp
          rw [e0]
          simp [newRow, q1]
        · rw [if_neg h0]
          simp [zeroValue, typeInfo, hi, hz, newRow, q1]
      · have hlt : k < e2.val * te.size := Nat.lt_of_lt_of_le hk (Nat.mul_le_mul_right _ p3)
        rw [zeroArr_getD _ (by omega) _ _ hlt]
        exact hz1 _ (Nat.mod_lt _ (by omega))
      · have hlt : x.val * te.size + j < e2.val * te.size := by
          have : (x.val + 1) * te.size ≤ e2.val * te.size := Nat.mul_le_mul_right _ (by omega)
          rw [Nat.add_mul] at this
          omega
        rw [zeroArr_getD _ (by omega) _ _ hlt, hzs]
        have em : (x.val * te.size + j) % te.size = j := by
          rw [Nat.mul_comm, Nat.mul_add_mod]; exact Nat.mod_eq_of_lt hj
        rw [em]
        have := zero_rep (w := w) (I := I) (β := Vln.no) (z := z0) j (by simp; omega)
        rw [← hzero] at this
        exact this
    · cases h
end
end Go.Eng
/-
  The symbolic executor: append, copy.
-/
namespace Go.Eng
def srcSV (A : Ar) (hp : HF) (sz : Nat) (s : SV) : Option (Prop × NV × (NV → List SV) × List Nat) :=
  match s with
  | .nils => some (True, .l 0, fun _ => [], [])
  | .ro sz' m g => match Nat.beq sz' sz with
    | true => some (True, m, g, [])
    | false => none
  | .sl j sz' off m => match hp j with
    | some (.row t sz'' k f) => match Nat.beq sz' sz && Nat.beq sz'' sz with
      | true => some (A.leN (A.addN off.val m.val) k.val, m, fun x => f (addNV A off x), [j])
      | false => none
    | _ => none
  | _ => none
def catG (A : Ar) (sz : Nat) (n : NV) (f g : NV → List SV) : NV → List SV := fun x =>
  match x, n with
  | .l a, .l b => match Nat.blt a b with
    | true => f (.l a)
    | false => g (.l (a - b))
  | x, n => (List.range sz).map fun j => mergeSV A 4 (A.ltN x.val n.val) ((f x).getD j .any) ((g (subNV A x n)).getD j .any)
def catF (A : Ar) (sz : Nat) (n : NV) (f g : NV → List SV) : NV → List SV :=
  match n with
  | .l 0 => g
  | n => catG A sz n f g
structure AppOut where
  obl : Prop
  id : Option Nat
  rd : List Nat
  n : NV
  f : NV → List SV
def appendSV (A : Ar) (hp : HF) (e : Nat) (te : TI) (s x : SV) : Option AppOut :=
  match Nat.blt 0 te.bytes && Nat.blt 0 te.size && Nat.beq te.zero.length te.size with
  | false => none
  | true => match srcSV A hp te.size x with
    | none => none
    | some (p, m, g, rd) => match s with
      | .nils => some ⟨p ∧ roomN A m.val te.bytes, none, rd, m, g⟩
      | .sl i sz off len => match off with
        | .l 0 => match hp i with
          | some (.row t sz' n f) => match Nat.beq sz te.size && Nat.beq sz' te.size && Nat.beq t e with
            | true => some ⟨p ∧ leNV A len n ∧ roomN A (A.addN len.val m.val) te.bytes, some i, i :: rd, addNV A len m, catF A te.size len f g⟩
            | false => none
          | _ => none
        | _ => none
      | _ => none
section
variable {P : Program} {cx : Cx} {w : World} {I : Nat → Prop} {β : Vln} {hp : HF} {nx : Nat}
structure Src (P : Program) (w : World) (I : Nat → Prop) (sz m : Nat) (g : NV → List SV) (v : Value) (arr : Array Value) : Prop where
  val : ∃ A c, v = .slice A m c
  size : arr.size = m * sz
  one : ∀ k, k < m * sz → (arr.getD k undef).oneCell' = true
  run : ∀ w2 : World, w2.heap = w.heap → (Builtin.firstCells sz m v).run P w2 = .ok arr w2
  cell : ∀ A c, v = .slice A m c → ∀ k, k < m * sz → ∃ a, A = some a ∧ w.cell? (a.add k) = some (arr.getD k undef)
  len : ∀ e : NV, e.val < m → (g e).length = sz
  rep : ∀ (e : NV) (j : Nat), e.val < m → j < sz → Rep w I Vln.no ((g e).getD j .any) (arr.getD (e.val * sz + j) undef)
theorem listMap_getD (u : Nat → Value) (n k : Nat) (h : k < n) : (((List.range n).map u).toArray).getD k undef = u k := by
  rw [Array.getD_eq_getD_getElem?]; simp [h]
theorem src_of_cells {sz m b o c : Nat} {g : NV → List SV} (u : Nat → Value) (hs : 0 < sz) (h1 : ∀ k, k < m * sz → (u k).oneCell' = true) (hcell : ∀ k, k < m * sz → w.cell? ⟨b, o + k, none⟩ = some (u k))
    (hlen : ∀ e : NV, e.val < m → (g e).length = sz) (hrep : ∀ (e : NV) (j : Nat), e.val < m → j < sz → Rep w I Vln.no ((g e).getD j .any) (u (e.val * sz + j))) :
    Src P w I sz m g (.slice (some ⟨b, o, none⟩) m c) (((List.range (m * sz)).map u).toArray) where
  val := ⟨_, _, rfl⟩
  size := by simp
  one := fun k hk => by rw [listMap_getD _ _ _ hk]; exact h1 k hk
  run := fun w2 hw => by
    have hl := run_loadCells (P := P) (w := w2) ⟨b, o, none⟩ (m * sz) u (fun j hj => by
      rw [addr_add_none, ← hcell j hj]
      simp [World.cell?, hw])
    simpa [Builtin.firstCells] using hl
  cell := fun A c h k hk => by
    cases h
    exact ⟨_, rfl, by rw [addr_add_none, listMap_getD _ _ _ hk]; exact hcell k hk⟩
  len := hlen
  rep := fun e j he hj => by
    have : (e.val + 1) * sz ≤ m * sz := Nat.mul_le_mul_right _ he
    rw [Nat.add_mul] at this
    rw [listMap_getD _ _ _ (by omega)]
    exact hrep e j he hj
theorem src_none {sz : Nat} {g : NV → List SV} (A : Option Addr) (c : Nat) : Src P w I sz 0 g (.slice A 0 c) #[] where
  val := ⟨_, _, rfl⟩
  size := by simp
  one := fun k hk => by simp at hk
  run := fun w2 _ => by cases A <;> simp [Builtin.firstCells, loadCells, loadCellsFrom]
  cell := fun A c h k hk => by simp at hk
  len := fun e he => by omega
  rep := fun e j he hj => by omega
theorem srcSV_ok {sz : Nat} {s : SV} {v : Value} {p : Prop} {m : NV} {g : NV → List SV} {rd : List Nat} (hs : 0 < sz) (h : srcSV Ar.real hp sz s = some (p, m, g, rd)) (hpp : p) (hr : Rep w I β s v) (hh : Hp cx I β hp nx w) :
    ∃ arr, Src P w I sz m.val g v arr := by
  unfold srcSV at h
  split at h
  · cases h; cases hr
    exact ⟨_, src_none _ _⟩
  · split at h
    · rename_i sz' m' g' _ hb
      have e : sz' = sz := Nat.eq_of_beq_eq_true hb
      subst e
      cases h
      cases hr with
      | ro0 _ _ hn _ A c => rw [hn]; exact ⟨_, src_none _ _⟩
      | @ro _ _ b o c _ _ hI hc hlen u h1 hcell hrep =>
        refine ⟨_, src_of_cells (fun k => u (k / sz') (k % sz')) hs (fun k hk => h1 _ _ ?_ (Nat.mod_lt _ hs)) (fun k hk => ?_) hlen (fun e j he hj => ?_)⟩
        · exact (Nat.div_lt_iff_lt_mul hs).2 hk
        · have := hcell (k / sz') (k % sz') ((Nat.div_lt_iff_lt_mul hs).2 hk) (Nat.mod_lt _ hs)
          rw [← this]
          have e := Nat.div_add_mod k sz'
          rw [Nat.mul_comm] at e
          congr 2
          omega
        · have e1 : (e.val * sz' + j) / sz' = e.val := by
            rw [Nat.mul_comm, Nat.mul_add_div hs, Nat.div_eq_of_lt hj, Nat.add_zero]
          have e2 : (e.val * sz' + j) % sz' = j := by rw [Nat.mul_comm, Nat.mul_add_mod]; exact Nat.mod_eq_of_lt hj
          simp only [e1, e2]
          exact hrep e j he hj
    · cases h
  · split at h
    · rename_i j sz' off m' _ t sz'' k f hbk
      split at h
      · rename_i _ hb
        simp only [Bool.and_eq_true, Nat.beq_eq] at hb
        obtain ⟨rfl, rfl⟩ := hb
        cases h
        have hle : off.val + m.val ≤ k.val := hpp
        cases hr with
        | sl0 hl A => rw [hl]; exact ⟨_, src_none _ _⟩
        | @sl _ _ _ b C o c _ _ hi hc hl ho =>
          by_cases hz : m.val = 0
          · rw [hz]; exact ⟨_, src_none _ _⟩
          · obtain ⟨vs, fz, k1, k2, k3, k4, k5, k7, k6⟩ := hh.own hbk hi
            rw [ho (by omega)]
            have hmul : ∀ q, q < m.val * sz'' → off.val * sz'' + q < k.val * sz'' := by
              intro q hq
              have : (off.val + m.val) * sz'' ≤ k.val * sz'' := Nat.mul_le_mul_right _ hle
              rw [Nat.add_mul] at this
              omega
            refine ⟨_, src_of_cells (fun q => vs.getD (off.val * sz'' + q) undef) hs (fun q hq => k7 _ (hmul q hq)) (fun q hq => ?_) (fun e he => k5 _ (by rw [addNV_val]; omega)) (fun e j he hj => ?_)⟩
            · refine cell_of_heap k1 ?_
              have h1 := hmul q hq
              have : k.val * sz'' ≤ C * sz'' := Nat.mul_le_mul_right _ k4
              omega
            · have := k6 (addNV Ar.real off e) j (by rw [addNV_val]; omega) hj
              rw [addNV_val, Nat.add_mul, Nat.add_assoc] at this
              exact this
      · cases h
    · cases h
  · cases h
theorem catG_ok {sz : Nat} {n m : NV} {f g : NV → List SV} {W : World} {J : Nat → Prop} {val : Nat → Value} (hf : ∀ e : NV, e.val < n.val → (f e).length = sz) (hg : ∀ e : NV, e.val < m.val → (g e).length = sz)
    (h1 : ∀ (e : NV) (j : Nat), e.val < n.val → j < sz → Rep W J Vln.no ((f e).getD j .any) (val (e.val * sz + j)))
    (h2 : ∀ (e : NV) (j : Nat), e.val < m.val → j < sz → Rep W J Vln.no ((g e).getD j .any) (val ((n.val + e.val) * sz + j))) :
    (∀ e : NV, e.val < n.val + m.val → (catG Ar.real sz n f g e).length = sz) ∧
    ∀ (e : NV) (j : Nat), e.val < n.val + m.val → j < sz → Rep W J Vln.no ((catG Ar.real sz n f g e).getD j .any) (val (e.val * sz + j)) := by
  constructor
  · intro e he
    unfold catG
    split
    · split
      · rename_i a b _ hlt
        exact hf _ (by simpa [NV.val] using hlt)
      · rename_i a b _ hlt
        have hlt : ¬ a < b := fun h => by rw [show Nat.blt a b = true from by simpa using h] at hlt; cases hlt
        simp only [NV.val] at he
        exact hg _ (by simp only [NV.val]; omega)
    · simp
  · intro e j he hj
    unfold catG
    split
    · split
      · rename_i a b _ hlt
        exact h1 (.l a) j (by simpa [NV.val] using hlt) hj
      · rename_i a b _ hlt
        have hlt : ¬ a < b := fun h => by rw [show Nat.blt a b = true from by simpa using h] at hlt; cases hlt
        simp only [NV.val] at he
        have := h2 (.l (a - b)) j (by simp only [NV.val]; omega) hj
        simp only [NV.val] at this ⊢
        rwa [show b + (a - b) = a by omega] at this
    · rw [mk_getD (l := ([] : List SV)) _ _ _ _ hj]
      refine mergeSV_ok 4 (fun h => ?_) (fun h => ?_)
      · have hlt : e.val < n.val := by simpa [Ar.real] using h
        exact h1 e j hlt hj
      · have hlt : ¬ e.val < n.val := by simpa [Ar.real] using h
        have := h2 (subNV Ar.real e n) j (by rw [subNV_val]; omega) hj
        rw [subNV_val] at this
        rwa [show n.val + (e.val - n.val) = e.val by omega] at this
theorem catF_ok {sz : Nat} {n m : NV} {f g : NV → List SV} {W : World} {J : Nat → Prop} {val : Nat → Value} (hf : ∀ e : NV, e.val < n.val → (f e).length = sz) (hg : ∀ e : NV, e.val < m.val → (g e).length = sz)
    (h1 : ∀ (e : NV) (j : Nat), e.val < n.val → j < sz → Rep W J Vln.no ((f e).getD j .any) (val (e.val * sz + j)))
    (h2 : ∀ (e : NV) (j : Nat), e.val < m.val → j < sz → Rep W J Vln.no ((g e).getD j .any) (val ((n.val + e.val) * sz + j))) :
    (∀ e : NV, e.val < n.val + m.val → (catF Ar.real sz n f g e).length = sz) ∧
    ∀ (e : NV) (j : Nat), e.val < n.val + m.val → j < sz → Rep W J Vln.no ((catF Ar.real sz n f g e).getD j .any) (val (e.val * sz + j)) := by
  unfold catF
  split
  · simp only [NV.val, Nat.zero_add] at h2 ⊢
    exact ⟨hg, h2⟩
  · exact catG_ok hf hg h1 h2
end
end Go.Eng
/-
  The symbolic executor: append.
-/
namespace Go.Eng
section
variable {P : Program} {cx : Cx} {w : World} {I : Nat → Prop} {β : Vln} {hp : HF} {nx : Nat}
theorem Hp.rename (h : Hp cx I β hp nx w) {i n b C : Nat} {x : Blk} (hx : hp i = some x) (hi : β i = some (b, C)) (hn : β n = none) (hin : hp n = none) (hnx : n < nx) :
    Hp cx I (β.put n b C) ((hp.upd i none).upd n (some x)) nx w := by
  have hext := put_ext (β := β) (n := n) (b := b) (C := C) hn
  have hne : i ≠ n := fun e => by subst e; rw [hn] at hi; cases hi
  refine { os := h.os, tape := h.tape, output := h.output, size := h.size, frame := h.frame, ibase := h.ibase, iext := h.iext, ilt := h.ilt, βbase := fun i y hy => hext i y (h.βbase i y hy), blt := ?_, fresh := ?_, blk := ?_, inj := ?_ }
  · intro j b' D hb
    by_cases e : j = n
    · simp only [Vln.put, if_pos e] at hb; cases hb; exact h.blt i _ _ hi
    · simp only [Vln.put, if_neg e] at hb; exact h.blt j _ _ hb
  · intro j hj
    have : j ≠ n := by omega
    simp only [Vln.put, if_neg this]
    exact h.fresh j hj
  · intro j y hy
    unfold HF.upd at hy
    by_cases e : j = n
    · rw [if_pos e] at hy; cases hy; subst e
      rcases h.blk i x hx with ⟨b2, C2, q1, q2, q3, q4⟩ | ⟨q1, _⟩
      · rw [hi] at q1; cases q1
        exact .inl ⟨b, C, by simp [Vln.put], q2, q3, q4.mono (fun _ h => h) (fun _ _ => rfl) rfl hext⟩
      · rw [hi] at q1; cases q1
    · rw [if_neg e] at hy
      split at hy
      · cases hy
      · rcases h.blk j y hy with ⟨b2, C2, q1, q2, q3, q4⟩ | ⟨q1, q2, q3⟩
        · exact .inl ⟨b2, C2, hext _ _ q1, q2, q3, q4.mono (fun _ h => h) (fun _ _ => rfl) rfl hext⟩
        · exact .inr ⟨by simp only [Vln.put, if_neg e]; exact q1, q2, q3⟩
  · intro j k b' D E y z hy hz hj hk
    unfold HF.upd at hy hz
    by_cases e1 : j = n <;> by_cases e2 : k = n
    · rw [e1, e2]
    · simp only [Vln.put, if_pos e1] at hj; cases hj
      simp only [Vln.put, if_neg e2] at hk
      rw [if_neg e2] at hz
      split at hz
      · cases hz
      · rename_i e3; exact absurd (h.inj k i _ _ _ _ _ hz hx hk hi) e3
    · simp only [Vln.put, if_pos e2] at hk; cases hk
      simp only [Vln.put, if_neg e1] at hj
      rw [if_neg e1] at hy
      split at hy
      · cases hy
      · rename_i e3; exact absurd (h.inj j i _ _ _ _ _ hy hx hj hi) e3
    · simp only [Vln.put, if_neg e1] at hj
      simp only [Vln.put, if_neg e2] at hk
      rw [if_neg e1] at hy; rw [if_neg e2] at hz
      split at hy
      · cases hy
      · split at hz
        · cases hz
        · exact h.inj j k b' D E y z hy hz hj hk
theorem append_getD (a b : Array Value) (k : Nat) : (a ++ b).getD k undef = if k < a.size then a.getD k undef else b.getD (k - a.size) undef := by
  simp only [Array.getD_eq_getD_getElem?]
  by_cases h : k < a.size
  · rw [if_pos h, Array.getElem?_append_left h]
  · rw [if_neg h, Array.getElem?_append_right (by omega)]
theorem run_append_fits {t e : TypeId} {inf : TypeInfo} (ht : P.underlying t = some (.slice e)) (hi : P.info? e = some inf) {ty : TypeId} {base : Option Addr} {len c m : Nat} {v : Value} {arr : Array Value} {g : NV → List SV}
    (hsrc : Src P w I inf.size m g v arr) (hfit : len + m ≤ c) {w' : World} (hst : ∀ a, base = some a → (storeCells (a.add (len * inf.size)) arr.toList).run P w = .ok () w') (hno : base = none → w' = w) :
    (Builtin.append_ #[t, t] ty #[.slice base len c, v]).run P w = .ok (.slice base (len + m) c) w' := by
  obtain ⟨A, c', rfl⟩ := hsrc.val
  have hrun := hsrc.run w rfl
  cases base with
  | none => simp [Builtin.append_, run_underlying ht, sizeOf, typeInfo, hi, Builtin.lenOf, hfit, hrun, hno rfl]
  | some a => simp [Builtin.append_, run_underlying ht, sizeOf, typeInfo, hi, Builtin.lenOf, hfit, hrun, hst a rfl]
theorem run_append_grow {t e : TypeId} {inf : TypeInfo} {z : Value} (ht : P.underlying t = some (.slice e)) (hi : P.info? e = some inf) (hz : inf.zero = some z) (hb : 0 < inf.bytes) {ty : TypeId} {base : Option Addr} {len c m : Nat} {v : Value} {arr old : Array Value} {g : NV → List SV}
    (hsrc : Src P w I inf.size m g v arr) (hold : ∀ w2 : World, w2.heap = w.heap → (Builtin.firstCells inf.size len (.slice base len c)).run P w2 = .ok old w2) (hnofit : c < len + m) (hroom : (len + m) * inf.bytes ≤ 140737488355328) :
    ∃ N, len + m ≤ N ∧ (Builtin.append_ #[t, t] ty #[.slice base len c, v]).run P w = .ok (.slice (some ⟨w.heap.size, 0, none⟩) (len + m) N) (w.drew.alloc (.cells (old ++ arr ++ Builtin.zeroCells z.cells (N - (len + m))) e)) := by
  obtain ⟨A, c', rfl⟩ := hsrc.val
  have hrun := hsrc.run w.drew rfl
  have hold := hold w.drew rfl
  have hcap := nextslicecap_le hnofit
  have hcb : Builtin.nextslicecap (len + m) c * inf.bytes ≤ 281474976710656 := by
    have : Builtin.nextslicecap (len + m) c * inf.bytes ≤ 2 * (len + m) * inf.bytes := Nat.mul_le_mul_right _ hcap
    rw [Nat.mul_assoc] at this
    omega
  refine ⟨(Question.appendCap (len + m) c e).cut (w.tape w.drawn (.appendCap (len + m) c e)), by simp [Question.cut], ?_⟩
  have hbz : ¬ inf.bytes = 0 := by omega
  have hroom : ∀ (n : Nat) (w : World), (askRoom n).run P w = .ok () w := by
    intro n w; unfold askRoom; split <;> simp [mark, Sem.run]
  have hf : (Question.appendCap (len + m) c e).forced = false := rfl
  simp [Builtin.append_, run_underlying ht, sizeOf, typeInfo, hi, Builtin.lenOf, Nat.not_le.2 hnofit, hbz, Nat.not_lt.2 hcb, hf, hroom, hold, hrun, zeroValue, hz, newRow]
theorem cat_getD {a b c : Array Value} {k : Nat} (h : k < a.size + b.size) : (a ++ b ++ c).getD k undef = if k < a.size then a.getD k undef else b.getD (k - a.size) undef := by
  rw [append_getD, if_pos (by simpa using h), append_getD]
theorem append_grow_ok {t e : TypeId} {inf : TypeInfo} {z0 : Value} {ty : TypeId} (ht : P.underlying t = some (.slice e)) (hi : P.info? e = some inf) (hz : inf.zero = some z0) (hzs : z0.cells.size = inf.size) (hbpos : 0 < inf.bytes)
    {base : Option Addr} {len c m : Nat} {v : Value} {old arr : Array Value} {f g : NV → List SV} (hS : Src P w I inf.size m g v arr) (hO : Src P w I inf.size len f (.slice base len c) old) (hnofit : c < len + m) (hroom : (len + m) * inf.bytes ≤ 140737488355328)
    (hh : Hp cx I β hp nx w) {n : Nat} (hn : β n = none) (hin : hp n = none) (hnx : n < nx) {n' : NV} {F : NV → List SV} (hn' : n'.val = len + m) (hF1 : ∀ e : NV, e.val < len + m → (F e).length = inf.size)
    (hF2 : ∀ val : Nat → Value, (∀ (e : NV) (j : Nat), e.val < len → j < inf.size → Rep w I Vln.no ((f e).getD j .any) (val (e.val * inf.size + j))) →
      (∀ (e : NV) (j : Nat), e.val < m → j < inf.size → Rep w I Vln.no ((g e).getD j .any) (val ((len + e.val) * inf.size + j))) →
      ∀ (e : NV) (j : Nat), e.val < len + m → j < inf.size → Rep w I Vln.no ((F e).getD j .any) (val (e.val * inf.size + j))) :
    ∃ z w' β', (Builtin.append_ #[t, t] ty #[.slice base len c, v]).run P w = .ok z w' ∧ Rep w' I β' (.sl n inf.size (.l 0) n') z ∧
      Hp cx I β' (hp.upd n (some (.row e inf.size n' F))) nx w' ∧ (∀ i y, β i = some y → β' i = some y) ∧ (∀ b, I b → w'.heap[b]? = w.heap[b]?) ∧ (∀ i, i ≠ n → β' i = β i) := by
  obtain ⟨N, hN, hrun⟩ := run_append_grow (ty := ty) (c := c) ht hi hz hbpos hS hO.run hnofit hroom
  have hos := hO.size
  have has := hS.size
  have hsum : old.size + arr.size = (len + m) * inf.size := by rw [hos, has, Nat.add_mul]
  have hget : ∀ k, k < (len + m) * inf.size → (old ++ arr ++ Builtin.zeroCells z0.cells (N - (len + m))).getD k undef = if k < len * inf.size then old.getD k undef else arr.getD (k - len * inf.size) undef := by
    intro k hk
    rw [cat_getD (by omega), hos]
  have hlen : (old ++ arr ++ Builtin.zeroCells z0.cells (N - (len + m))).size = N * inf.size := by
    have h1 : (Builtin.zeroCells z0.cells (N - (len + m))).size = (N - (len + m)) * inf.size := by simp [Builtin.zeroCells, hzs]
    rw [Array.size_append, Array.size_append, hsum, h1, ← Nat.add_mul]
    congr 1
    omega
  have made := made_row (w := w.drew) hh.drew hn hin hnx e (vs := old ++ arr ++ Builtin.zeroCells z0.cells (N - (len + m))) (sz := inf.size) (C := N) (m := n') (f := F) hlen (by omega) (by rw [hn']; exact hF1) (fun k hk => by
      rw [hn'] at hk
      rw [hget k hk]
      split
      · exact hO.one _ (by assumption)
      · refine hS.one _ ?_
        rw [Nat.add_mul] at hk
        omega) (fun x j hx hj => by
      rw [hn'] at hx
      refine Rep.mono (w := w) (I := I) (β := Vln.no) ?_ (fun _ h => h) (fun _ _ => rfl) (fun _ _ h => h)
      refine hF2 (fun k => (old ++ arr ++ Builtin.zeroCells z0.cells (N - (len + m))).getD k undef) (fun x j hx hj => ?_) (fun x j hx hj => ?_) x j hx hj
      · have h1 : (x.val + 1) * inf.size ≤ len * inf.size := Nat.mul_le_mul_right _ hx
        have h2 : len * inf.size ≤ (len + m) * inf.size := Nat.mul_le_mul_right _ (by omega)
        rw [Nat.add_mul] at h1
        rw [hget _ (by omega), if_pos (by omega)]
        exact hO.rep x j hx hj
      · have h1 : (x.val + 1) * inf.size ≤ m * inf.size := Nat.mul_le_mul_right _ hx
        rw [Nat.add_mul] at h1
        rw [Nat.add_mul len x.val]
        rw [hget _ (by rw [Nat.add_mul]; omega), if_neg (by omega)]
        rw [show len * inf.size + x.val * inf.size + j - len * inf.size = x.val * inf.size + j by omega]
        exact hS.rep x j hx hj)
  refine ⟨_, _, _, hrun, ?_, made.hp, made.ext, made.keep, fun i hi => by simp only [Vln.put, if_neg hi]⟩
  rw [← hn']
  exact .sl (b := w.heap.size) (C := N) (by simp [Vln.put]) (by simp [NV.val]) (by omega) (fun _ => by simp [NV.val])
theorem addNV_zero (x : NV) : addNV Ar.real (.l 0) x = x := by
  rfl
theorem catG_len {sz : Nat} {n m : NV} {f g : NV → List SV} (hf : ∀ e : NV, e.val < n.val → (f e).length = sz) (hg : ∀ e : NV, e.val < m.val → (g e).length = sz) (e : NV) (he : e.val < n.val + m.val) : (catG Ar.real sz n f g e).length = sz := by
  unfold catG
  split
  · split
    · rename_i a b _ hlt
      exact hf _ (by simpa [NV.val] using hlt)
    · rename_i a b _ hlt
      have hlt : ¬ a < b := fun h => by rw [show Nat.blt a b = true from by simpa using h] at hlt; cases hlt
      simp only [NV.val] at he
      exact hg _ (by simp only [NV.val]; omega)
  · simp
theorem catF_len {sz : Nat} {n m : NV} {f g : NV → List SV} (hf : ∀ e : NV, e.val < n.val → (f e).length = sz) (hg : ∀ e : NV, e.val < m.val → (g e).length = sz) (e : NV) (he : e.val < n.val + m.val) : (catF Ar.real sz n f g e).length = sz := by
  unfold catF
  split
  · exact hg e (by simp only [NV.val, Nat.zero_add] at he; exact he)
  · exact catG_len hf hg e he
theorem hp_upd_id (hp : HF) (i : Nat) (x : Option Blk) (h : hp i = x) : hp.upd i x = hp := by
  funext j
  unfold HF.upd
  split
  · rename_i e; rw [e, h]
  · rfl
theorem appendSV_ok {t e : TypeId} {te : TI} {ty : TypeId} {s x : SV} {u v : Value} {out : AppOut} (ht : P.underlying t = some (.slice e)) (hte : tiOf P e = some te) (h : appendSV Ar.real hp e te s x = some out) (hpp : out.obl)
    (hs : Rep w I β s u) (hx : Rep w I β x v) (hh : Hp cx I β hp nx w) {n : Nat} (hn : β n = none) (hin : hp n = none) (hnx : n < nx) :
    ∃ z w' β', (Builtin.append_ #[t, t] ty #[u, v]).run P w = .ok z w' ∧ Rep w' I β' (.sl n te.size (.l 0) out.n) z ∧
      Hp cx I β' (((match out.id with | some i => hp.upd i none | none => hp)).upd n (some (.row e te.size out.n out.f))) nx w' ∧ (∀ i y, β i = some y → β' i = some y) ∧ (∀ b, I b → w'.heap[b]? = w.heap[b]?) ∧ (∀ i, i ≠ n → β' i = β i) := by
  obtain ⟨inf, d, z0, hi, hd, hz, hsz, hby, hzero, hsh⟩ := tiOf_spec hte
  unfold appendSV at h
  split at h
  · cases h
  · rename_i hc
    simp only [Bool.and_eq_true, Nat.blt_eq, Nat.beq_eq] at hc
    obtain ⟨⟨hbpos, hspos⟩, hzl⟩ := hc
    have hzs : z0.cells.size = inf.size := by rw [hzero] at hzl; rw [hsz]; simpa using hzl
    split at h
    · cases h
    · rename_i p m g rd hsrc
      split at h
      · -- nothing was there
        cases h
        obtain ⟨hp1, hroom⟩ := hpp
        have hroom : m.val * te.bytes ≤ 140737488355328 := hroom
        obtain ⟨arr, hS⟩ := srcSV_ok (P := P) hspos hsrc hp1 hx hh
        cases hs with
        | nils A =>
          by_cases hm : m.val = 0
          · rw [hm] at hS
            have harr : arr = #[] := by have := hS.size; simp at this; exact this
            subst harr
            have hfit := run_append_fits (ty := ty) (len := 0) (c := 0) (w' := w) ht hi (by rw [hsz]; exact hS) (by omega) (base := A) (fun a _ => by simp [storeCells]) (fun _ => rfl)
            exact ⟨_, w, β, hfit, .sl0 hm _, hh.ghost hn hnx hm, fun _ _ h => h, fun _ _ => rfl, fun _ _ => rfl⟩
          · rw [← hsz] at hS
            have := append_grow_ok (ty := ty) (n' := m) (F := g) ht hi hz hzs (by omega) hS (src_none (g := fun _ => []) A 0) (by omega) (by rw [hby, Nat.zero_add]; exact hroom) hh hn hin hnx (by omega) (fun e he => hS.len e (by omega)) (fun val _ h2 e j he hj => by
              have := h2 e j (by omega) hj
              simpa using this)
            rw [hsz] at this
            exact this
      · -- an own row
        split at h
        · rename_i i sz len _
          split at h
          · rename_i bt sz' k f hbk
            split at h
            · rename_i hb2
              simp only [Bool.and_eq_true, Nat.beq_eq] at hb2
              obtain ⟨⟨rfl, rfl⟩, rfl⟩ := hb2
              cases h
              obtain ⟨hp1, hle, hroom⟩ := hpp
              have hle : len.val ≤ k.val := hle
              have hroom : (len.val + m.val) * te.bytes ≤ 140737488355328 := hroom
              obtain ⟨arr, hS⟩ := srcSV_ok (P := P) hspos hsrc hp1 hx hh
              have hne : i ≠ n := fun e => by subst e; rw [hin] at hbk; cases hbk
              have hin' : (hp.upd i none) n = none := by unfold HF.upd; rw [if_neg (Ne.symm hne)]; exact hin
              have hadd : (addNV Ar.real len m).val = len.val + m.val := addNV_val _ _
              have hsrc0 : srcSV Ar.real hp te.size (.sl i te.size (.l 0) len) = some (Ar.real.leN (Ar.real.addN 0 len.val) k.val, len, f, [i]) := by
                simp [srcSV, hbk, NV.val, addNV_zero]
              obtain ⟨old, hO⟩ := srcSV_ok (P := P) hspos hsrc0 (by show 0 + len.val ≤ k.val; omega) hs hh
              cases hs with
              | sl0 hl0 A =>
                by_cases hm : m.val = 0
                · rw [hm] at hS
                  have harr : arr = #[] := by have := hS.size; simp at this; exact this
                  subst harr
                  have hfit := run_append_fits (ty := ty) (len := 0) (c := 0) (w' := w) ht hi (by rw [hsz]; exact hS) (by omega) (base := A) (fun a _ => by simp [storeCells]) (fun _ => rfl)
                  exact ⟨_, w, β, hfit, .sl0 (by rw [hadd]; omega) _, (hh.drop i).ghost hn hnx (by rw [hadd]; omega), fun _ _ h => h, fun _ _ => rfl, fun _ _ => rfl⟩
                · have hlenf : ∀ e : NV, e.val < len.val → (f e).length = te.size := fun e he => by omega
                  have hcat := fun val => catF_ok (W := w) (J := I) (val := val) (n := len) (m := m) (f := f) (g := g) hlenf hS.len
                  have hcl := catF_len (n := len) (m := m) (f := f) (g := g) hlenf hS.len
                  rw [← hsz] at hS hcat hcl
                  have := append_grow_ok (ty := ty) (n' := addNV Ar.real len m) (F := catF Ar.real inf.size len f g) ht hi hz hzs (by omega) hS (src_none (g := f) A 0) (by omega) (by rw [hby, Nat.zero_add]; rw [hl0, Nat.zero_add] at hroom; exact hroom) (hh.drop i) hn hin' hnx (by rw [hadd, hl0])
                    (fun e he => hcl e (by omega))
                    (fun val _ h2 e j he hj => (hcat val (fun e j he => by omega) (fun e j he hj => by have := h2 e j he hj; rw [Nat.zero_add] at this; rw [hl0, Nat.zero_add]; exact this)).2 e j (by omega) hj)
                  rw [hsz] at this
                  rw [hl0]
                  exact this
              | @sl _ _ _ b C o c _ _ hbi hc hl ho =>
                obtain ⟨vs, fz, k1, k2, k3, k4, k5, k7, k6⟩ := hh.own hbk hbi
                have hlenf : ∀ e : NV, e.val < len.val → (f e).length = te.size := fun e he => k5 e (by omega)
                have hcat := fun (W : World) (J : Nat → Prop) (val : Nat → Value) => catF_ok (W := W) (J := J) (val := val) (n := len) (m := m) (f := f) (g := g) hlenf hS.len
                have hcl := catF_len (n := len) (m := m) (f := f) (g := g) hlenf hS.len
                simp only [NV.val, Nat.zero_add] at hc
                subst hc
                by_cases hfits : len.val + m.val ≤ c
                · -- within the capacity
                  by_cases hc0 : c = 0
                  · -- nothing at all
                    have hl0 : len.val = 0 := by omega
                    have hm : m.val = 0 := by omega
                    rw [hm] at hS
                    have harr : arr = #[] := by have := hS.size; simp at this; exact this
                    subst harr
                    have hfit := run_append_fits (ty := ty) (len := len.val) (c := c) (w' := w) ht hi (by rw [hsz]; exact hS) (by omega) (base := some ⟨b, o, none⟩) (fun a _ => by simp [storeCells]) (fun h => by cases h)
                    refine ⟨_, w, β, hfit, ?_, (hh.drop i).ghost hn hnx (by rw [hadd]; omega), fun _ _ h => h, fun _ _ => rfl, fun _ _ => rfl⟩
                    rw [hc0, show len.val + 0 = 0 by omega]
                    exact .sl0 (by rw [hadd]; omega) _
                  · have ho0 : o = 0 := by simpa [NV.val] using ho (by omega)
                    subst ho0
                    have hbl : b < w.heap.size := (Array.getElem?_eq_some_iff.1 k1).1
                    have hmul : (len.val + m.val) * te.size ≤ c * te.size := Nat.mul_le_mul_right _ hfits
                    have hmul' := hmul
                    rw [Nat.add_mul] at hmul'
                    have hone : ∀ x ∈ arr.toList, x.oneCell' = true := by
                      intro x hx
                      obtain ⟨q, hq, rfl⟩ := List.getElem_of_mem hx
                      have hq' : q < m.val * te.size := by rw [← hS.size]; simpa using hq
                      have := hS.one q hq'
                      rwa [← toList_getD, List.getD_eq_getElem?_getD, List.getElem?_eq_getElem hq] at this
                    have hst := run_storeCells_own (P := P) b (len.val * te.size) bt fz arr.toList 0 vs w k1 k2 (by simp [hS.size]; omega) hone
                    simp only [Nat.add_zero] at hst
                    have hfit := run_append_fits (ty := ty) (len := len.val) (c := c) (w' := putW w b (.cells (splice vs (len.val * te.size) arr.toList) bt fz)) ht hi (by rw [hsz]; exact hS) hfits (base := some ⟨b, 0, none⟩) (fun a ha => by
                      cases ha
                      rw [addr_add_none, Nat.zero_add, hsz]
                      exact hst) (fun h => by cases h)
                    have hnotI : ¬ I b := by
                      rcases hh.blk _ _ hbk with ⟨b2, C2, q1, q2, q3, q4⟩ | ⟨q1, _⟩
                      · rw [hbi] at q1; cases q1; exact q3
                      · rw [hbi] at q1; cases q1
                    have hIw : ∀ b', I b' → (putW w b (.cells (splice vs (len.val * te.size) arr.toList) bt fz)).heap[b']? = w.heap[b']? := fun b' hb' => putW_other _ _ _ _ (fun e => hnotI (e ▸ hb'))
                    have hget : ∀ k, (splice vs (len.val * te.size) arr.toList).getD k undef = if len.val * te.size ≤ k ∧ k < len.val * te.size + m.val * te.size then arr.getD (k - len.val * te.size) undef else vs.getD k undef := by
                      intro k
                      rw [splice_getD _ _ _ _ _ (by simp [hS.size]; omega), toList_getD]
                      simp [hS.size]
                    have hturn := hh.turn (w' := putW w b (.cells (splice vs (len.val * te.size) arr.toList) bt fz)) (y := .row bt te.size (addNV Ar.real len m) (catF Ar.real te.size len f g)) hbk hbi rfl rfl rfl (putW_size _ _ _) (fun b' hb' => putW_other _ _ _ _ hb')
                      ⟨_, fz, putW_same _ _ _ hbl, by rw [splice_size]; exact k2, by rw [splice_size]; exact k3, by rw [hadd]; exact hfits, fun x hx => hcl x (by rw [hadd] at hx; exact hx), fun q hq => by
                        rw [hadd, Nat.add_mul] at hq
                        rw [hget]
                        split
                        · exact hS.one _ (by omega)
                        · refine k7 q ?_
                          have : len.val * te.size ≤ k.val * te.size := Nat.mul_le_mul_right _ hle
                          omega, fun x j hx hj => by
                        rw [hadd] at hx
                        refine Rep.mono (w := w) (I := I) (β := Vln.no) ?_ (fun _ h => h) hIw (fun _ _ h => h)
                        refine (hcat w I (fun q => (splice vs (len.val * te.size) arr.toList).getD q undef) (fun x j hx hj => ?_) (fun x j hx hj => ?_)).2 x j hx hj
                        · have h1 : (x.val + 1) * te.size ≤ len.val * te.size := Nat.mul_le_mul_right _ hx
                          rw [Nat.add_mul] at h1
                          rw [hget, if_neg (by omega)]
                          exact k6 x j (by omega) hj
                        · have h1 : (x.val + 1) * te.size ≤ m.val * te.size := Nat.mul_le_mul_right _ hx
                          rw [Nat.add_mul] at h1
                          rw [hget, Nat.add_mul, if_pos (by omega)]
                          rw [show len.val * te.size + x.val * te.size + j - len.val * te.size = x.val * te.size + j by omega]
                          exact hS.rep x j hx hj⟩
                    have hren := hturn.rename (i := i) (n := n) (b := b) (C := c) (x := .row bt te.size (addNV Ar.real len m) (catF Ar.real te.size len f g)) (by simp [HF.upd]) hbi hn (by unfold HF.upd; rw [if_neg (Ne.symm hne)]; exact hin) hnx
                    have heq : (((hp.upd i (some (.row bt te.size (addNV Ar.real len m) (catF Ar.real te.size len f g)))).upd i none).upd n (some (.row bt te.size (addNV Ar.real len m) (catF Ar.real te.size len f g)))) = (hp.upd i none).upd n (some (.row bt te.size (addNV Ar.real len m) (catF Ar.real te.size len f g))) := by
                      funext q
                      unfold HF.upd
                      by_cases e1 : q = n
                      · simp [e1]
                      · by_cases e2 : q = i
                        · simp [e2]
                        · simp [e1, e2]
                    refine ⟨_, _, _, hfit, ?_, by rw [← heq]; exact hren, put_ext hn, hIw, fun q hq => by simp only [Vln.put, if_neg hq]⟩
                    rw [← hadd]
                    exact .sl (b := b) (C := c) (by simp [Vln.put]) (by simp [NV.val]) (by rw [hadd]; exact hfits) (fun _ => by simp [NV.val])
                · -- a new array
                  have hcat' := fun val => hcat w I val
                  rw [← hsz] at hS hO hcat' hcl
                  have := append_grow_ok (ty := ty) (n' := addNV Ar.real len m) (F := catF Ar.real inf.size len f g) ht hi hz hzs (by omega) hS (f := f) hO (by omega) (by rw [hby]; exact hroom) (hh.drop i) hn hin' hnx hadd
                    (fun e he => hcl e he)
                    (fun val h1 h2 e j he hj => (hcat' val h1 h2).2 e j he hj)
                  rw [hsz] at this
                  exact this
            · cases h
          · cases h
        · cases h
      · cases h
end
end Go.Eng
