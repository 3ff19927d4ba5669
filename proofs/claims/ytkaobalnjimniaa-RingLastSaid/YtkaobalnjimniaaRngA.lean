/-
  Events, and the plain law of a ring of places.
-/
import Derived.Test.YtkaobalnjimniaaEngThree
set_option linter.unusedVariables false
set_option linter.unusedSimpArgs false
namespace Go.RngLaw
open Go.Eng
/-- An event. -/
structure Sn where
  id : Int
  xl : Nat
  x : Nat → Int
  p : Int
  q : Int
  b : Bool
/-- Its cells. -/
def sn (s : Sn) : List SV := [.int .i64 s.id, .ro 1 (.s s.xl) (fun e => [.int .i64 (s.x e.val)]), .int .i64 s.p, .int .i64 s.q, .bs s.b]
def zSn : Sn := ⟨0, 0, fun _ => 0, 0, 0, false⟩
/-- What stands in the places behind so many events. -/
def rgP (h : Nat → Sn) (room : Nat) : Nat → Nat → Sn
  | 0 => fun _ => zSn
  | c + 1 => fun j => if j = c % room then h c else rgP h room c j
theorem rgP_at (h : Nat → Sn) (room : Nat) (hr : 0 < room) : ∀ c k, k < c → c ≤ k + room → rgP h room c (k % room) = h k := by
  intro c
  induction c with
  | zero => intro k hk; omega
  | succ c ih =>
    intro k h1 h2
    show (if k % room = c % room then h c else rgP h room c (k % room)) = h k
    by_cases e : k = c
    · subst e; rw [if_pos rfl]
    · have hne : k % room ≠ c % room := by
        intro h3
        have h4 : (c - k) % room = 0 := Nat.sub_mod_eq_zero_of_mod_eq h3.symm
        have h5 : (c - k) % room = c - k := Nat.mod_eq_of_lt (by omega)
        omega
      rw [if_neg hne]
      exact ih k (by omega) (by omega)
def manyC (room c : Nat) : Nat := min c room
def firstC (room c : Nat) : Nat := (c - min c room) % room
theorem firstC_lt {room : Nat} (hr : 0 < room) (c : Nat) : firstC room c < room := Nat.mod_lt _ hr
theorem firstC_zero {room c : Nat} (h : c ≤ room) : firstC room c = 0 := by
  unfold firstC; rw [Nat.min_eq_left h, Nat.sub_self, Nat.zero_mod]
theorem place_eq {room : Nat} (c i : Nat) : (firstC room c + i) % room = (c - min c room + i) % room := by
  unfold firstC; rw [Nat.mod_add_mod]
theorem rgP_place (h : Nat → Sn) (room : Nat) (hr : 0 < room) (c i : Nat) (hi : i < min c room) : rgP h room c ((firstC room c + i) % room) = h (c - min c room + i) := by
  rw [place_eq]
  exact rgP_at h room hr c _ (by omega) (by omega)
/-- Where the next one goes. -/
theorem place_next {room : Nat} (c : Nat) (h : c < room) : (firstC room c + min c room) % room = c % room := by
  rw [place_eq]; congr 1; omega
theorem first_full {room : Nat} (c : Nat) (h : room ≤ c) : firstC room c = c % room := by
  unfold firstC
  rw [Nat.min_eq_right h]
  rw [show c = c - room + room by omega, Nat.add_mod_right]
  congr 1; omega
theorem first_next {room : Nat} (c : Nat) (h : room ≤ c) : (firstC room c + 1) % room = firstC room (c + 1) := by
  rw [first_full c h, first_full (c + 1) (by omega), Nat.mod_add_mod]
end Go.RngLaw
