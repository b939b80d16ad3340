/- The ring's two functions, over a cache in memory. -/
import Derived.Test.YtdodjjnejpdgcaaA
import Derived.Test.YtdodjjnejpdgcaaK
namespace Go.Proofs.Ytdodjjnejpdgcaa
open Go.RowKit

section
variable {B : Nat} {w : World} {C M n : Nat} {most size hits misses : Int} {A : List Ent} {D : DataW Unit}

def sen (C : Nat) : Node := (C, 2)
/-- the elements of L are alive -/
def Alive (A : List Ent) (L : List Nat) : Prop := ∀ e ∈ L, ∃ x ∈ A, x.E = e

theorem frozen_at {w : World} {b : Nat} {cs : Array Value} {t : TypeId} (h : w.heap[b]? = some (.cells cs t (0, 0))) (o : Nat) : w.frozen? ⟨b, o, none⟩ = false := by
  simp [World.frozen?, h]
theorem cell_at {w : World} {b : Nat} {cs : Array Value} {t : TypeId} (h : w.heap[b]? = some (.cells cs t (0, 0))) {o : Nat} (ho : o < cs.size) : ∃ v, w.cell? ⟨b, o, none⟩ = some v :=
  ⟨cs[o], by simp [World.cell?, h, ho]⟩

/-- a node of the ring: its block -/
theorem Body.node (hB : Body Try.prog B w C M n most size hits misses A D) {x : Node} (h : x = sen C ∨ ∃ e, x = nd e ∧ ∃ y ∈ A, y.E = e) :
    (∃ v, w.cell? (nxt x) = some v) ∧ (∃ v, w.cell? (prv x) = some v) ∧ w.frozen? (nxt x) = false ∧ w.frozen? (prv x) = false ∧ PtrCells C A (nxt x) ∧ PtrCells C A (prv x) := by
  rcases h with rfl | ⟨e, rfl, y, hy, rfl⟩
  · obtain ⟨cs, h1, h2⟩ := hB.blk
    exact ⟨cell_at h1 (by rw [h2]; simp [sen]), cell_at h1 (by rw [h2]; simp [sen]), frozen_at h1 _, frozen_at h1 _, .inr (.inl rfl), .inl rfl⟩
  · obtain ⟨cs, h1, h2⟩ := (hB.els y hy).blk
    exact ⟨cell_at h1 (by rw [h2]; simp [nd]), cell_at h1 (by rw [h2]; simp [nd]), frozen_at h1 _, frozen_at h1 _, .inr (.inr ⟨y, hy, .inr rfl⟩), .inr (.inr ⟨y, hy, .inl rfl⟩)⟩

theorem lastN_node {L : List Nat} (h : Alive A L) : lastN (sen C) L = sen C ∨ ∃ e, lastN (sen C) L = nd e ∧ ∃ y ∈ A, y.E = e := by
  rcases lastN_mem (L := L) (p := sen C) with ⟨h1, _⟩ | ⟨e, he, h1⟩
  · exact .inl h1
  · exact .inr ⟨e, h1, h e he⟩
theorem headN_node {L : List Nat} (h : Alive A L) : headN L (sen C) = sen C ∨ ∃ e, headN L (sen C) = nd e ∧ ∃ y ∈ A, y.E = e := by
  cases L with
  | nil => exact .inl rfl
  | cons e L => exact .inr ⟨e, rfl, h e (by simp)⟩

theorem nxt_ne_prv {x y : Node} (hx : x.2 = 0 ∨ x.2 = 2) (hy : y.2 = 0 ∨ y.2 = 2) : nxt x ≠ prv y := by
  intro h
  simp only [nxt, prv, Addr.mk.injEq] at h
  omega
theorem node_off {x : Node} (h : x = sen C ∨ ∃ e, x = nd e ∧ ∃ y ∈ A, y.E = e) : x.2 = 0 ∨ x.2 = 2 := by
  rcases h with rfl | ⟨e, rfl, _⟩
  · exact .inr rfl
  · exact .inl rfl

def OutPost (B C M n : Nat) (most size hits misses : Int) (A : List Ent) (D : DataW Unit) (L : List Nat) (w : World) (e : Ending) (w' : World) : Prop :=
  e = .returned (.tuple #[]) ∧ Body Try.prog B w' C M n most size hits misses A D ∧ Seg w' (sen C) L (sen C) ∧ Mv (PtrCells C A) w w'

theorem out_ring (hB : Body Try.prog B w C M n most size hits misses A D) {L1 L2 : List Nat} {e : Nat} (hS : Seg w (sen C) (L1 ++ e :: L2) (sen C)) (hA : Alive A (L1 ++ e :: L2)) (hnd : (L1 ++ e :: L2).Nodup) :
    Calls Try.prog 22 #[.pointer (some ⟨e, 0, none⟩)] w (OutPost B C M n most size hits misses A D (L1 ++ L2) w) := by
  obtain ⟨s1, s2⟩ := seg_split.1 hS
  have l1 := s1.last
  have l2 := s2.head
  have n1 := lastN_node (C := C) (L := L1) (A := A) (fun x hx => hA x (by simp [hx]))
  have n2 := headN_node (C := C) (L := L2) (A := A) (fun x hx => hA x (by simp [hx]))
  obtain ⟨p1, p2, p3, p4, p5, p6⟩ := hB.node n1
  obtain ⟨q1, q2, q3, q4, q5, q6⟩ := hB.node n2
  have hne := nxt_ne_prv (node_off n1) (node_off n2)
  obtain ⟨vq, hq⟩ := q2
  refine (out_any e 0 (lastN (sen C) L1).1 (lastN (sen C) L1).2 (headN L2 (sen C)).1 (headN L2 (sen C)).2 w _ vq l1.2 l2.1 l1.1 ((World.cell?_setCell_other w _ _ _ hne).trans hq) p3 q4).mono ?_
  rintro e' w' ⟨rfl, hs⟩
  have hmv : Mv (fun a => a = nxt (lastN (sen C) L1) ∨ a = prv (headN L2 (sen C))) w w' :=
    ((Mv.set w (nxt (lastN (sen C) L1)) (ptr (headN L2 (sen C))) _ (.inl rfl)).trans (Mv.set _ (prv (headN L2 (sen C))) (ptr (lastN (sen C) L1)) _ (.inr rfl))).trans (Mv.of_same hs _)
  have hmv2 : Mv (PtrCells C A) w w' := hmv.mono (by rintro x (rfl | rfl); exact p5; exact q6)
  refine ⟨rfl, hB.mv hmv2, ring_out hS rfl hnd ?_ ?_ (fun a h1 h2 => hmv.cell a (by rintro (h | h); exact h1 h; exact h2 h)), hmv2⟩
  · rw [cell_heap hs.1]
    refine (World.cell?_setCell_other _ _ _ _ (Ne.symm hne)).trans ?_
    exact World.cell?_setCell_same w _ _ l1.1
  · rw [cell_heap hs.1]
    exact World.cell?_setCell_same _ _ _ ((World.cell?_setCell_other w _ _ _ hne).trans hq)

theorem first_ring (hB : Body Try.prog B w C M n most size hits misses A D) {L : List Nat} {e : Nat} (hS : Seg w (sen C) L (sen C)) (hA : Alive A (e :: L)) (hnd : (e :: L).Nodup) :
    Calls Try.prog 21 #[.pointer (some ⟨C, 0, none⟩), .pointer (some ⟨e, 0, none⟩)] w (OutPost B C M n most size hits misses A D (e :: L) w) := by
  have l0 := hS.head
  have ne := (show nd e = sen C ∨ ∃ e', nd e = nd e' ∧ ∃ y ∈ A, y.E = e' from .inr ⟨e, rfl, hA e (by simp)⟩)
  have ns : sen C = sen C ∨ ∃ e, sen C = nd e ∧ ∃ y ∈ A, y.E = e := .inl rfl
  have nq := headN_node (C := C) (L := L) (A := A) (fun x hx => hA x (by simp [hx]))
  obtain ⟨⟨vn, hvn⟩, ⟨vp, hvp⟩, e3, e4, e5, e6⟩ := hB.node ne
  obtain ⟨⟨vs, hvs⟩, _, s3, s4, s5, s6⟩ := hB.node ns
  obtain ⟨_, ⟨vq, hvq⟩, q3, q4, q5, q6⟩ := hB.node nq
  have hqe : headN L (sen C) ≠ nd e := by
    cases L with
    | nil => intro h; have := congrArg Prod.snd h; simp [headN, sen, nd] at this
    | cons b K => intro h; have := nd_inj h; subst this; simp at hnd
  have hse : sen C ≠ nd e := by intro h; have := congrArg Prod.snd h; simp [sen, nd] at this
  have d1 : prv (nd e) ≠ nxt (nd e) := (nxt_ne_prv (.inl rfl) (.inl rfl)).symm
  have d2 : prv (nd e) ≠ nxt (sen C) := (nxt_ne_prv (.inr rfl) (.inl rfl)).symm
  have d3 : nxt (nd e) ≠ nxt (sen C) := fun h => hse (nxt_inj h).symm
  have d4 : prv (nd e) ≠ prv (headN L (sen C)) := fun h => hqe (prv_inj h).symm
  have d5 : nxt (nd e) ≠ prv (headN L (sen C)) := nxt_ne_prv (.inl rfl) (node_off nq)
  have d6 : nxt (sen C) ≠ prv (headN L (sen C)) := nxt_ne_prv (.inr rfl) (node_off nq)
  have k1 : (w.setCell (prv (nd e)) (ptr (sen C))).cell? (nxt (nd e)) = some vn := (World.cell?_setCell_other w _ _ _ d1).trans hvn
  have k2 : (firstW1 e 0 C (headN L (sen C)).1 (headN L (sen C)).2 w).cell? (prv (nd e)) = some (ptr (sen C)) := (World.cell?_setCell_other _ _ _ _ d1.symm).trans (World.cell?_setCell_same w _ _ hvp)
  have k3 : (firstW1 e 0 C (headN L (sen C)).1 (headN L (sen C)).2 w).cell? (nxt (nd e)) = some (ptr (headN L (sen C))) := World.cell?_setCell_same _ _ _ k1
  have k4 : (firstW1 e 0 C (headN L (sen C)).1 (headN L (sen C)).2 w).cell? (nxt (sen C)) = some vs := (World.cell?_setCell_other _ _ _ _ d3).trans ((World.cell?_setCell_other w _ _ _ d2).trans hvs)
  have k5 : (firstW1 e 0 C (headN L (sen C)).1 (headN L (sen C)).2 w).cell? (prv (headN L (sen C))) = some vq := (World.cell?_setCell_other _ _ _ _ d5).trans ((World.cell?_setCell_other w _ _ _ d4).trans hvq)
  have k6 : ((firstW1 e 0 C (headN L (sen C)).1 (headN L (sen C)).2 w).setCell (nxt (sen C)) (ptr (nd e))).cell? (prv (headN L (sen C))) = some vq := (World.cell?_setCell_other _ _ _ _ d6).trans k5
  refine (first_any e 0 C (headN L (sen C)).1 (headN L (sen C)).2 w vp vn vs vq l0.1 hvp k1 e4 e3 q4 s3 k2 k3 k4 k6).mono ?_
  rintro e' w' ⟨rfl, hs⟩
  have hmv : Mv (fun a => a = prv (nd e) ∨ a = nxt (nd e) ∨ a = nxt (sen C) ∨ a = prv (headN L (sen C))) w w' :=
    ((((Mv.set w (prv (nd e)) (ptr (sen C)) _ (.inl rfl)).trans (Mv.set _ (nxt (nd e)) (ptr (headN L (sen C))) _ (.inr (.inl rfl)))).trans (Mv.set _ (nxt (sen C)) (ptr (nd e)) _ (.inr (.inr (.inl rfl))))).trans
      (Mv.set _ (prv (headN L (sen C))) (ptr (nd e)) _ (.inr (.inr (.inr rfl))))).trans (Mv.of_same hs _)
  have hmv2 : Mv (PtrCells C A) w w' := hmv.mono (by
    rintro x (rfl | rfl | rfl | rfl)
    · exact e6
    · exact e5
    · exact s5
    · exact q6)
  refine ⟨rfl, hB.mv hmv2, ring_first hS rfl hnd ?_ ?_ ?_ ?_ (fun a h1 h2 h3 h4 => hmv.cell a (by rintro (h | h | h | h); exact h1 h; exact h2 h; exact h3 h; exact h4 h)), hmv2⟩
  · rw [cell_heap hs.1]
    exact (World.cell?_setCell_other _ _ _ _ d4.symm).trans ((World.cell?_setCell_other _ _ _ _ d2.symm).trans k2)
  · rw [cell_heap hs.1]
    exact (World.cell?_setCell_other _ _ _ _ d5.symm).trans ((World.cell?_setCell_other _ _ _ _ d3.symm).trans k3)
  · rw [cell_heap hs.1]
    exact (World.cell?_setCell_other _ _ _ _ d6.symm).trans (World.cell?_setCell_same _ _ _ k4)
  · rw [cell_heap hs.1]
    exact World.cell?_setCell_same _ _ _ k6
end
end Go.Proofs.Ytdodjjnejpdgcaa
