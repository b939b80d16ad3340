/- Contracts of the ring: an element taken out; an element put first. -/
import Derived.Test.YtdodjjnejpdgcaaRows
import Derived.Test.YtdodjjnejpdgcaaS
import Derived.WalkKit
import Derived.WalkSpells
import Derived.WalkLawsBesides
import Derived.Lib.Hide
import Derived.BigRegion
import Derived.ChangeAlike
namespace Go.Proofs.Ytdodjjnejpdgcaa
open Go.RowKit

set_option maxHeartbeats 400000 in
theorem out_any (xb xo pb po qb qo : Nat) (w : World) (vp vq : Value)
    (h1 : w.cell? ⟨xb, xo + 2, none⟩ = some (.pointer (some ⟨pb, po, none⟩))) (h2 : w.cell? ⟨xb, xo + 3, none⟩ = some (.pointer (some ⟨qb, qo, none⟩)))
    (h3 : w.cell? ⟨pb, po + 3, none⟩ = some vp)
    (h4' : (w.setCell ⟨pb, po + 3, none⟩ (.pointer (some ⟨qb, qo, none⟩))).cell? ⟨qb, qo + 2, none⟩ = some vq)
    (f1 : w.frozen? ⟨pb, po + 3, none⟩ = false) (f2 : w.frozen? ⟨qb, qo + 2, none⟩ = false) :
    Calls Try.prog 22 #[.pointer (some ⟨xb, xo, none⟩)] w fun e w' => e = .returned (.tuple #[]) ∧ Same w' ((w.setCell ⟨pb, po + 3, none⟩ (.pointer (some ⟨qb, qo, none⟩))).setCell ⟨qb, qo + 2, none⟩ (.pointer (some ⟨pb, po, none⟩))) := by
  go_enter Try.func22, Try.ntmps22
  go_wp2
  go_big_region
  all_goals go_end0
  all_goals exact ⟨rfl, rfl, rfl, rfl, rfl⟩

/-- the world behind region 0 of 'first' -/
def firstW1 (xb xo cb qb qo : Nat) (w : World) : World := (w.setCell ⟨xb, xo + 2, none⟩ (.pointer (some ⟨cb, 2, none⟩))).setCell ⟨xb, xo + 3, none⟩ (.pointer (some ⟨qb, qo, none⟩))
/-- the world behind region 1 -/
def firstW2 (xb xo cb qb qo : Nat) (w : World) : World := ((firstW1 xb xo cb qb qo w).setCell ⟨cb, 5, none⟩ (.pointer (some ⟨xb, xo, none⟩))).setCell ⟨qb, qo + 2, none⟩ (.pointer (some ⟨xb, xo, none⟩))

set_option maxHeartbeats 400000 in
theorem first_any (xb xo cb qb qo : Nat) (w : World) (vp vn' vs vq : Value)
    (h0 : w.cell? ⟨cb, 5, none⟩ = some (.pointer (some ⟨qb, qo, none⟩)))
    (h1 : w.cell? ⟨xb, xo + 2, none⟩ = some vp) (h2' : (w.setCell ⟨xb, xo + 2, none⟩ (.pointer (some ⟨cb, 2, none⟩))).cell? ⟨xb, xo + 3, none⟩ = some vn')
    (f1 : w.frozen? ⟨xb, xo + 2, none⟩ = false) (f2 : w.frozen? ⟨xb, xo + 3, none⟩ = false) (f3 : w.frozen? ⟨qb, qo + 2, none⟩ = false) (f4 : w.frozen? ⟨cb, 5, none⟩ = false)
    (g1 : (firstW1 xb xo cb qb qo w).cell? ⟨xb, xo + 2, none⟩ = some (.pointer (some ⟨cb, 2, none⟩))) (g2 : (firstW1 xb xo cb qb qo w).cell? ⟨xb, xo + 3, none⟩ = some (.pointer (some ⟨qb, qo, none⟩)))
    (g3 : (firstW1 xb xo cb qb qo w).cell? ⟨cb, 5, none⟩ = some vs) (g4 : ((firstW1 xb xo cb qb qo w).setCell ⟨cb, 5, none⟩ (.pointer (some ⟨xb, xo, none⟩))).cell? ⟨qb, qo + 2, none⟩ = some vq) :
    Calls Try.prog 21 #[.pointer (some ⟨cb, 0, none⟩), .pointer (some ⟨xb, xo, none⟩)] w fun e w' => e = .returned (.tuple #[]) ∧ Same w' (firstW2 xb xo cb qb qo w) := by
  go_enter Try.func21, Try.ntmps21
  go_wp2
  go_big_region
  go_wp2
  generalize hW : ((w.setCell ⟨xb, xo + 2, none⟩ (.pointer (some ⟨cb, 2, none⟩))).setCell ⟨xb, xo + 3, none⟩ (.pointer (some ⟨qb, qo, none⟩))).drew = W1
  have k1 : W1.cell? ⟨xb, xo + 2, none⟩ = some (.pointer (some ⟨cb, 2, none⟩)) := by rw [← hW]; exact g1
  have k2 : W1.cell? ⟨xb, xo + 3, none⟩ = some (.pointer (some ⟨qb, qo, none⟩)) := by rw [← hW]; exact g2
  have k3 : W1.cell? ⟨cb, 5, none⟩ = some vs := by rw [← hW]; exact g3
  have k4 : (W1.setCell ⟨cb, 5, none⟩ (.pointer (some ⟨xb, xo, none⟩))).cell? ⟨qb, qo + 2, none⟩ = some vq := by rw [← hW]; exact g4
  have k5 : W1.frozen? ⟨cb, 5, none⟩ = false := by rw [← hW]; simp [f4]
  have k6 : W1.frozen? ⟨qb, qo + 2, none⟩ = false := by rw [← hW]; simp [f3]
  have HW := Lib.hid hW
  clear hW h0 h1 h2' f1 f2 f3 f4 g1 g2 g3 g4
  go_big_region
  go_end0
  refine ⟨rfl, ?_⟩
  have hW := HW.out
  subst hW
  exact ⟨rfl, rfl, rfl, rfl⟩
end Go.Proofs.Ytdodjjnejpdgcaa
