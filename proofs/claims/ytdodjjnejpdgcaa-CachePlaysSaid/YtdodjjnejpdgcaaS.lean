/- Worlds, rings of elements, caches in memory: the plain facts. No Go text in sight. -/
import Derived.Maps.OwnSet
import Derived.Below
import Derived.WalkSmall
namespace Go.Proofs.Ytdodjjnejpdgcaa
open Go.RowKit

/-- the same world but for its count of draws -/
def Same (w' w : World) : Prop := w'.heap = w.heap ∧ w'.os = w.os ∧ w'.tape = w.tape ∧ w'.output = w.output

/-- w' comes of w by stores into cells of T alone -/
structure Mv (T : Addr → Prop) (w w' : World) : Prop where
  os : w'.os = w.os
  tape : w'.tape = w.tape
  output : w'.output = w.output
  size : w'.heap.size = w.heap.size
  cell : ∀ a, ¬ T a → w'.cell? a = w.cell? a
  block : ∀ i : Nat, (∀ a, T a → a.block ≠ i) → w'.heap[i]? = w.heap[i]?
  kind : ∀ (i : Nat) (cs : Array Value) (t : TypeId) (mk : Nat × Nat), w.heap[i]? = some (.cells cs t mk) → ∃ cs', w'.heap[i]? = some (.cells cs' t mk) ∧ cs'.size = cs.size

theorem cell_heap {w w' : World} (h : w'.heap = w.heap) (a : Addr) : w'.cell? a = w.cell? a := by simp [World.cell?, h]
theorem frozen_heap {w w' : World} (h : w'.heap = w.heap) (a : Addr) : w'.frozen? a = w.frozen? a := by simp [World.frozen?, h]

theorem Mv.of_same {w w' : World} (h : Same w' w) (T : Addr → Prop) : Mv T w w' :=
  ⟨h.2.1, h.2.2.1, h.2.2.2, by rw [h.1], fun a _ => cell_heap h.1 a, fun i _ => by rw [h.1], fun i cs t mk hh => ⟨cs, by rw [h.1]; exact hh, rfl⟩⟩
theorem Mv.refl (w : World) (T : Addr → Prop) : Mv T w w := Mv.of_same ⟨rfl, rfl, rfl, rfl⟩ T
theorem Mv.set (w : World) (a : Addr) (v : Value) (T : Addr → Prop) (ha : T a) : Mv T w (w.setCell a v) := by
  refine ⟨rfl, rfl, rfl, by simp, fun b hb => World.cell?_setCell_other _ _ _ _ (fun e => hb (e ▸ ha)), fun i hi => ?_, fun i cs t mk hh => ?_⟩
  · exact Below.heap_setCell w a v i (fun e => hi a ha e.symm)
  · by_cases e : i = a.block
    · subst e
      refine ⟨if a.spot.isSome then cs else cs.setIfInBounds a.off v, ?_, by split <;> simp⟩
      simp [World.setCell, Array.getElem?_modify, hh]
    · exact ⟨cs, by rw [Below.heap_setCell w a v i e]; exact hh, rfl⟩
theorem Mv.trans {T : Addr → Prop} {a b c : World} (h : Mv T a b) (k : Mv T b c) : Mv T a c :=
  ⟨k.os.trans h.os, k.tape.trans h.tape, k.output.trans h.output, k.size.trans h.size, fun x hx => (k.cell x hx).trans (h.cell x hx), fun i hi => (k.block i hi).trans (h.block i hi), fun i cs t mk hh => by
    obtain ⟨cs1, h1, h2⟩ := h.kind i cs t mk hh
    obtain ⟨cs2, h3, h4⟩ := k.kind i cs1 t mk h1
    exact ⟨cs2, h3, by omega⟩⟩
theorem Mv.mono {T T' : Addr → Prop} {a b : World} (h : Mv T a b) (hT : ∀ x, T x → T' x) : Mv T' a b :=
  ⟨h.os, h.tape, h.output, h.size, fun x hx => h.cell x (fun e => hx (hT x e)), fun i hi => h.block i (fun x hx => hi x (hT x hx)), h.kind⟩
theorem Mv.below {T : Addr → Prop} {a b : World} (h : Mv T a b) {B : Nat} (hT : ∀ x, T x → B ≤ x.block) : Below B a b :=
  ⟨h.os, h.tape, h.output, by rw [h.size]; exact Nat.le_refl _, fun i hi => h.block i (fun x hx e => by have := hT x hx; omega)⟩

/-- a world behind a call of the cache's: what lies below B stands, and all blocks of cells but those of elements and caches -/
structure Fr (B : Nat) (w w' : World) : Prop where
  below : Below B w w'
  other : ∀ (i : Nat) (cs : Array Value) (t : TypeId) (mk : Nat × Nat), w.heap[i]? = some (.cells cs t mk) → t ≠ 55 → t ≠ 57 → w'.heap[i]? = some (.cells cs t mk)
theorem Fr.refl (B : Nat) (w : World) : Fr B w w := ⟨Below.refl _ _, fun _ _ _ _ h _ _ => h⟩
theorem Fr.trans {B : Nat} {a b c : World} (h : Fr B a b) (k : Fr B b c) : Fr B a c :=
  ⟨h.below.trans k.below, fun i cs t mk hh h1 h2 => k.other i cs t mk (h.other i cs t mk hh h1 h2) h1 h2⟩
theorem Fr.mono {B B' : Nat} {a b : World} (h : Fr B a b) (hb : B' ≤ B) : Fr B' a b := ⟨h.below.mono hb, h.other⟩
theorem Fr.of_below {B : Nat} {a b : World} (h : Below a.heap.size a b) (hb : B ≤ a.heap.size) : Fr B a b :=
  ⟨h.mono hb, fun i cs t mk hh _ _ => by rw [h.block i (Array.getElem?_eq_some_iff.1 hh).1]; exact hh⟩
theorem Fr.row {B b0 : Nat} {w w' : World} (h : Fr B w w') {e : TypeId} (h5 : e ≠ 55) (h7 : e ≠ 57) {size : Nat} {v : Value} {n : Nat} {xs : List Value} (hr : w.ownsRow b0 e size v n xs) : w'.ownsRow b0 e size v n xs := by
  refine ⟨hr.1, ?_⟩
  rcases hr.2 with h1 | ⟨g, cap, cur, h1, h2, h3, h4⟩
  · exact .inl h1
  · exact .inr ⟨g, cap, cur, h1, h2, h.other g cur e (0, 0) h3 h5 h7, h4⟩

/-! ### rings -/
abbrev Node := Nat × Nat
def ptr (q : Node) : Value := .pointer (some ⟨q.1, q.2, none⟩)
def nxt (p : Node) : Addr := ⟨p.1, p.2 + 3, none⟩
def prv (p : Node) : Addr := ⟨p.1, p.2 + 2, none⟩
def Links (w : World) (p q : Node) : Prop := w.cell? (nxt p) = some (ptr q) ∧ w.cell? (prv q) = some (ptr p)
def nd (e : Nat) : Node := (e, 0)
def Seg (w : World) : Node → List Nat → Node → Prop
  | p, [], q => Links w p q
  | p, e :: L, q => Links w p (nd e) ∧ Seg w (nd e) L q
def lastN : Node → List Nat → Node
  | p, [] => p
  | _, e :: L => lastN (nd e) L
def headN : List Nat → Node → Node
  | [], q => q
  | e :: _, _ => nd e

theorem seg_split {w : World} : ∀ {L1 : List Nat} {p : Node} {e : Nat} {L2 : List Nat} {q : Node}, Seg w p (L1 ++ e :: L2) q ↔ Seg w p L1 (nd e) ∧ Seg w (nd e) L2 q
  | [], _, _, _, _ => Iff.rfl
  | a :: L1, p, e, L2, q => by
    show (Links w p (nd a) ∧ Seg w (nd a) (L1 ++ e :: L2) q) ↔ ((Links w p (nd a) ∧ Seg w (nd a) L1 (nd e)) ∧ Seg w (nd e) L2 q)
    rw [seg_split (L1 := L1), and_assoc]
theorem Seg.last {w : World} : ∀ {L : List Nat} {p q : Node}, Seg w p L q → Links w (lastN p L) q
  | [], _, _, h => h
  | a :: L, _, _, h => Seg.last (L := L) (p := nd a) h.2
theorem Seg.head {w : World} : ∀ {L : List Nat} {p q : Node}, Seg w p L q → Links w p (headN L q)
  | [], _, _, h => h
  | _ :: _, _, _, h => h.1
theorem lastN_mem : ∀ {L : List Nat} {p : Node}, lastN p L = p ∧ L = [] ∨ ∃ e ∈ L, lastN p L = nd e
  | [], _ => .inl ⟨rfl, rfl⟩
  | a :: L, p => by
    right
    rcases lastN_mem (L := L) (p := nd a) with ⟨h, _⟩ | ⟨e, he, h⟩
    · exact ⟨a, by simp, h⟩
    · exact ⟨e, by simp [he], h⟩

theorem nxt_inj {p q : Node} (h : nxt p = nxt q) : p = q := by
  simp only [nxt, Addr.mk.injEq] at h
  exact Prod.ext h.1 (by omega)
theorem prv_inj {p q : Node} (h : prv p = prv q) : p = q := by
  simp only [prv, Addr.mk.injEq] at h
  exact Prod.ext h.1 (by omega)

/-- what a segment needs of another world: the cells of its links -/
theorem Seg.same {w w' : World} : ∀ {L : List Nat} {p q : Node}, Seg w p L q → (∀ x, x = p ∨ (∃ e ∈ L, x = nd e) → w'.cell? (nxt x) = w.cell? (nxt x)) → (∀ x, x = q ∨ (∃ e ∈ L, x = nd e) → w'.cell? (prv x) = w.cell? (prv x)) → Seg w' p L q
  | [], _, _, h, hn, hp => ⟨(hn _ (.inl rfl)).trans h.1, (hp _ (.inl rfl)).trans h.2⟩
  | a :: L, _, _, h, hn, hp => by
    refine ⟨⟨(hn _ (.inl rfl)).trans h.1.1, (hp _ (.inr ⟨a, by simp, rfl⟩)).trans h.1.2⟩, Seg.same h.2 (fun x hx => hn x (.inr ?_)) (fun x hx => hp x ?_)⟩
    · rcases hx with rfl | ⟨e, he, rfl⟩
      · exact ⟨a, by simp, rfl⟩
      · exact ⟨e, by simp [he], rfl⟩
    · rcases hx with rfl | ⟨e, he, rfl⟩
      · exact .inl rfl
      · exact .inr ⟨e, by simp [he], rfl⟩

/-- two segments joined by a new link -/
theorem seg_join {w' : World} : ∀ {L1 : List Nat} {p : Node} {L2 : List Nat} {q : Node}, (∀ (a : Nat) (K : List Nat), L1 = K ++ [a] → Seg w' p K (nd a)) → Links w' (lastN p L1) (headN L2 q) → (∀ (b : Nat) (K : List Nat), L2 = b :: K → Seg w' (nd b) K q) → Seg w' p (L1 ++ L2) q := by
  intro L1 p L2 q h1 hl h2
  have h3 : ∀ (x : Node), Links w' x (headN L2 q) → Seg w' x L2 q := by
    intro x hx
    cases L2 with
    | nil => exact hx
    | cons b K => exact ⟨hx, h2 b K rfl⟩
  rcases List.eq_nil_or_concat L1 with rfl | ⟨K, a, rfl⟩
  · exact h3 _ hl
  · have e1 : lastN p (K ++ [a]) = nd a := by
      clear h1 hl
      induction K generalizing p with
      | nil => rfl
      | cons c K ih => exact ih (p := nd c)
    rw [List.concat_eq_append] at *
    rw [e1] at hl
    rw [List.append_assoc]
    exact seg_split.2 ⟨h1 a K rfl, h3 _ hl⟩

theorem nd_inj {a b : Nat} (h : nd a = nd b) : a = b := (Prod.mk.inj h).1

/-- AN ELEMENT TAKEN OUT of a ring: the two cells written; all other cells of links stand -/
theorem ring_out {w w' : World} {S : Node} {L1 L2 : List Nat} {e : Nat} (h : Seg w S (L1 ++ e :: L2) S) (hS : S.2 = 2) (hnd : (L1 ++ e :: L2).Nodup)
    (hn : w'.cell? (nxt (lastN S L1)) = some (ptr (headN L2 S))) (hp : w'.cell? (prv (headN L2 S)) = some (ptr (lastN S L1)))
    (hc : ∀ a, a ≠ nxt (lastN S L1) → a ≠ prv (headN L2 S) → w'.cell? a = w.cell? a) : Seg w' S (L1 ++ L2) S := by
  obtain ⟨s1, s2⟩ := seg_split.1 h
  have hdis := List.nodup_append.1 hnd
  have hSn : ∀ e, S ≠ nd e := fun e h => by rw [h] at hS; cases hS
  have hnp : ∀ x y : Node, (x.2 = 0 ∨ x.2 = 2) → (y.2 = 0 ∨ y.2 = 2) → nxt x ≠ prv y := by
    intro x y hx hy h
    simp only [nxt, prv, Addr.mk.injEq] at h
    omega
  have hl2 : (lastN S L1).2 = 0 ∨ (lastN S L1).2 = 2 := by
    rcases lastN_mem (L := L1) (p := S) with ⟨h, _⟩ | ⟨a, _, h⟩
    · rw [h]; exact .inr hS
    · rw [h]; exact .inl rfl
  have hh2 : (headN L2 S).2 = 0 ∨ (headN L2 S).2 = 2 := by
    cases L2 with
    | nil => exact .inr hS
    | cons b K => exact .inl rfl
  refine seg_join ?_ ⟨hn, hp⟩ ?_
  · intro a K hL1
    subst hL1
    have hla : lastN S (K ++ [a]) = nd a := by
      clear s1 h hn hp hc hdis hnd hl2
      generalize S = p
      induction K generalizing p with
      | nil => rfl
      | cons c K ih => exact ih (p := nd c)
    have s1' := (seg_split (L2 := [])).1 s1
    have hK := (List.nodup_append.1 hdis.1)
    rw [hla] at hn hc hl2
    refine s1'.1.same (fun x hx => hc _ (fun e1 => ?_) (fun e1 => ?_)) (fun x hx => hc _ (fun e1 => ?_) (fun e1 => ?_))
    · have := nxt_inj e1
      rcases hx with rfl | ⟨y, hy, rfl⟩
      · exact hSn _ this
      · exact hK.2.2 y hy a (by simp) (nd_inj this)
    · refine hnp _ _ ?_ hh2 e1
      rcases hx with rfl | ⟨y, hy, rfl⟩
      · exact .inr hS
      · exact .inl rfl
    · refine hnp _ _ hl2 ?_ e1.symm
      rcases hx with rfl | ⟨y, hy, rfl⟩
      · exact .inl rfl
      · exact .inl rfl
    · have := prv_inj e1
      cases L2 with
      | nil =>
        have h3 : x = S := this
        rcases hx with rfl | ⟨y, hy, rfl⟩
        · exact hSn _ h3.symm
        · exact hSn _ h3.symm
      | cons b L =>
        have h3 : x = nd b := this
        have hxm : ∃ y ∈ K ++ [a], x = nd y := by
          rcases hx with rfl | ⟨y, hy, rfl⟩
          · exact ⟨a, by simp, rfl⟩
          · exact ⟨y, by simp [hy], rfl⟩
        obtain ⟨y, hy, rfl⟩ := hxm
        exact hdis.2.2 y hy b (by simp) (nd_inj h3)
  · intro b K hL2
    subst hL2
    have hK := (List.nodup_cons.1 (List.nodup_cons.1 hdis.2.1).2)
    refine s2.2.same (fun x hx => hc _ (fun e1 => ?_) (fun e1 => ?_)) (fun x hx => hc _ (fun e1 => ?_) (fun e1 => ?_))
    · have h3 := nxt_inj e1
      have hxm : ∃ y ∈ b :: K, x = nd y := by
        rcases hx with rfl | ⟨y, hy, rfl⟩
        · exact ⟨b, by simp, rfl⟩
        · exact ⟨y, by simp [hy], rfl⟩
      obtain ⟨y, hy, rfl⟩ := hxm
      rcases lastN_mem (L := L1) (p := S) with ⟨h4, _⟩ | ⟨z, hz, h4⟩
      · exact hSn _ (h4 ▸ h3).symm
      · rw [h4] at h3
        exact hdis.2.2 z hz y (by simp at hy ⊢; exact .inr hy) (nd_inj h3).symm
    · refine hnp _ _ ?_ hh2 e1
      rcases hx with rfl | ⟨y, hy, rfl⟩
      · exact .inl rfl
      · exact .inl rfl
    · refine hnp _ _ hl2 ?_ e1.symm
      rcases hx with rfl | ⟨y, hy, rfl⟩
      · exact .inr hS
      · exact .inl rfl
    · have h3 : x = nd b := prv_inj e1
      rcases hx with rfl | ⟨y, hy, rfl⟩
      · exact hSn _ h3
      · have := nd_inj h3
        subst this
        exact hK.1 hy

/-- AN ELEMENT PUT FIRST -/
theorem ring_first {w w' : World} {S : Node} {L : List Nat} {e : Nat} (h : Seg w S L S) (hS : S.2 = 2) (hnd : (e :: L).Nodup)
    (h1 : w'.cell? (prv (nd e)) = some (ptr S)) (h2 : w'.cell? (nxt (nd e)) = some (ptr (headN L S)))
    (h3 : w'.cell? (nxt S) = some (ptr (nd e))) (h4 : w'.cell? (prv (headN L S)) = some (ptr (nd e)))
    (hc : ∀ a, a ≠ prv (nd e) → a ≠ nxt (nd e) → a ≠ nxt S → a ≠ prv (headN L S) → w'.cell? a = w.cell? a) : Seg w' S (e :: L) S := by
  have hSn : ∀ e, S ≠ nd e := fun e h => by rw [h] at hS; cases hS
  have hnp : ∀ x y : Node, (x.2 = 0 ∨ x.2 = 2) → (y.2 = 0 ∨ y.2 = 2) → nxt x ≠ prv y := by
    intro x y hx hy h
    simp only [nxt, prv, Addr.mk.injEq] at h
    omega
  have he := List.nodup_cons.1 hnd
  refine ⟨⟨h3, h1⟩, ?_⟩
  cases L with
  | nil => exact ⟨h2, h4⟩
  | cons b K =>
    have hb := List.nodup_cons.1 he.2
    refine ⟨⟨h2, h4⟩, h.2.same (fun x hx => hc _ (fun e1 => ?_) (fun e1 => ?_) (fun e1 => ?_) (fun e1 => ?_)) (fun x hx => hc _ (fun e1 => ?_) (fun e1 => ?_) (fun e1 => ?_) (fun e1 => ?_))⟩
    · refine hnp _ _ ?_ (.inl rfl) e1
      rcases hx with rfl | ⟨y, hy, rfl⟩ <;> exact .inl rfl
    · have h5 := nxt_inj e1
      rcases hx with rfl | ⟨y, hy, rfl⟩
      · have := nd_inj h5; subst this; exact he.1 (by simp)
      · have := nd_inj h5; subst this; exact he.1 (by simp [hy])
    · have h5 := nxt_inj e1
      rcases hx with rfl | ⟨y, hy, rfl⟩ <;> exact hSn _ h5.symm
    · refine hnp _ _ ?_ (.inl rfl) e1
      rcases hx with rfl | ⟨y, hy, rfl⟩ <;> exact .inl rfl
    · have h5 := prv_inj e1
      rcases hx with rfl | ⟨y, hy, rfl⟩
      · exact hSn _ h5
      · have := nd_inj h5; subst this; exact he.1 (by simp [hy])
    · refine hnp _ _ (.inl rfl) ?_ e1.symm
      rcases hx with rfl | ⟨y, hy, rfl⟩
      · exact .inr hS
      · exact .inl rfl
    · refine hnp _ _ (.inr hS) ?_ e1.symm
      rcases hx with rfl | ⟨y, hy, rfl⟩
      · exact .inr hS
      · exact .inl rfl
    · have h5 : x = nd b := prv_inj e1
      rcases hx with rfl | ⟨y, hy, rfl⟩
      · exact hSn _ h5
      · have := nd_inj h5; subst this; exact hb.1 hy
end Go.Proofs.Ytdodjjnejpdgcaa
