/- Caches in memory: what holds of their blocks, and what keeps it. -/
import Derived.Test.YtdodjjnejpdgcaaS
namespace Go.Proofs.Ytdodjjnejpdgcaa
open Go.RowKit

structure Ent where
  key : Int
  bs : List Int
  E : Nat
  bv : Value

def total : List Ent → Int
  | [] => 0
  | e :: L => (e.bs.length : Int) + total L

def ptrElem : Value → Option (DataW Unit × List MemPlace)
  | .pointer (some ⟨E, 0, none⟩) => some (.lit (.int .i64 E), [])
  | .pointer none => some (.nil, [])
  | _ => none

structure El (B : Nat) (w : World) (e : Ent) : Prop where
  blk : ∃ cs, w.heap[e.E]? = some (.cells cs 55 (0, 0)) ∧ cs.size = 4
  key : w.cell? ⟨e.E, 0, none⟩ = some (.int .i64 e.key)
  val : w.cell? ⟨e.E, 1, none⟩ = some e.bv
  row : w.ownsRow B 5 1 e.bv e.bs.length (e.bs.map (Value.int .u8))
  base : B ≤ e.E
  wf : (Lit.int .i64 e.key).wf = true

structure Body (P : Program) (B : Nat) (w : World) (C M n : Nat) (most size hits misses : Int) (A : List Ent) (D : DataW Unit) : Prop where
  bC : B ≤ C
  bM : B ≤ M
  blk : ∃ cs, w.heap[C]? = some (.cells cs 57 (0, 0)) ∧ cs.size = 9
  c0 : w.cell? ⟨C, 0, none⟩ = some (.int .i64 most)
  c1 : w.cell? ⟨C, 1, none⟩ = some (.int .i64 size)
  c6 : w.cell? ⟨C, 6, none⟩ = some (.map (some M))
  c7 : w.cell? ⟨C, 7, none⟩ = some (.int .i64 hits)
  c8 : w.cell? ⟨C, 8, none⟩ = some (.int .i64 misses)
  els : ∀ e ∈ A, El B w e
  mp : w.ownsMap P 3 ptrElem M n D

/-- the cells that hold the links -/
def PtrCells (C : Nat) (A : List Ent) (a : Addr) : Prop := a = ⟨C, 4, none⟩ ∨ a = ⟨C, 5, none⟩ ∨ ∃ e ∈ A, a = ⟨e.E, 2, none⟩ ∨ a = ⟨e.E, 3, none⟩

/-- every block that there was stands -/
def Ext (w w' : World) : Prop := ∀ (i : Nat) (o : Obj), w.heap[i]? = some o → w'.heap[i]? = some o
theorem Ext.of_below {w w' : World} (h : Below w.heap.size w w') : Ext w w' := fun i o hi => by
  rw [h.block i (Array.getElem?_eq_some_iff.1 hi).1]; exact hi
theorem Ext.cell {w w' : World} (h : Ext w w') {a : Addr} {v : Value} (hc : w.cell? a = some v) : w'.cell? a = some v := by
  cases hb : w.heap[a.block]? with
  | none => simp [World.cell?, hb] at hc
  | some o => rw [World.cell?_of_block (w := w) (by rw [h _ _ hb, hb])]; exact hc
theorem Ext.row {w w' : World} (h : Ext w w') {b : Nat} {e : TypeId} {size : Nat} {v : Value} {n : Nat} {xs : List Value} (hr : w.ownsRow b e size v n xs) : w'.ownsRow b e size v n xs := by
  refine ⟨hr.1, ?_⟩
  rcases hr.2 with h1 | ⟨g, cap, cur, h1, h2, h3, h4⟩
  · exact .inl h1
  · exact .inr ⟨g, cap, cur, h1, h2, h _ _ h3, h4⟩
theorem Ext.el {w w' : World} (h : Ext w w') {B : Nat} {e : Ent} (he : El B w e) : El B w' e := by
  obtain ⟨cs, h1, h2⟩ := he.blk
  exact ⟨⟨cs, h _ _ h1, h2⟩, h.cell he.key, h.cell he.val, h.row he.row, he.base, he.wf⟩
theorem Ext.seg {w w' : World} (h : Ext w w') : ∀ {L : List Nat} {p q : Node}, Seg w p L q → Seg w' p L q
  | [], _, _, hs => ⟨h.cell hs.1, h.cell hs.2⟩
  | a :: L, _, _, hs => ⟨⟨h.cell hs.1.1, h.cell hs.1.2⟩, Ext.seg h (L := L) (p := nd a) hs.2⟩
theorem Ext.map {P : Program} {w w' : World} (h : Ext w w') {k : TypeId} {R : Value → Option (DataW Unit × List MemPlace)} {b n : Nat} {D : DataW Unit} (hm : w.ownsMap P k R b n D) : w'.ownsMap P k R b n D := by
  obtain ⟨es, clock, hb, r⟩ := hm
  exact ⟨es, clock, h _ _ hb, r⟩

section
variable {P : Program} {B : Nat} {w w' : World} {C M n : Nat} {most size hits misses : Int} {A : List Ent} {D : DataW Unit}

theorem Body.ext (hB : Body P B w C M n most size hits misses A D) (h : Ext w w') : Body P B w' C M n most size hits misses A D := by
  obtain ⟨cs, h1, h2⟩ := hB.blk
  exact ⟨hB.bC, hB.bM, ⟨cs, h _ _ h1, h2⟩, h.cell hB.c0, h.cell hB.c1, h.cell hB.c6, h.cell hB.c7, h.cell hB.c8, fun e he => h.el (hB.els e he), h.map hB.mp⟩

/-- a store that leaves the other cells: which blocks it can hit -/
theorem Mv.row {T : Addr → Prop} (h : Mv T w w') (hT : ∀ a, T a → ∃ (cs : Array Value) (t : TypeId), w.heap[a.block]? = some (.cells cs t (0, 0)) ∧ (t = 55 ∨ t = 57)) {b : Nat} {v : Value} {n : Nat} {xs : List Value}
    (hr : w.ownsRow b 5 1 v n xs) : w'.ownsRow b 5 1 v n xs := by
  refine ⟨hr.1, ?_⟩
  rcases hr.2 with h1 | ⟨g, cap, cur, h1, h2, h3, h4⟩
  · exact .inl h1
  · refine .inr ⟨g, cap, cur, h1, h2, ?_, h4⟩
    rw [h.block g]
    · exact h3
    · intro a ha e
      obtain ⟨cs, t, hh, ht⟩ := hT a ha
      rw [e, h3] at hh
      injection hh with hh
      injection hh with _ e2 _
      subst e2
      rcases ht with ht | ht <;> cases ht

theorem Mv.map {T : Addr → Prop} (h : Mv T w w') (hT : ∀ a, T a → ∃ (cs : Array Value) (t : TypeId), w.heap[a.block]? = some (.cells cs t (0, 0)) ∧ (t = 55 ∨ t = 57)) (hm : w.ownsMap P 3 ptrElem M n D) : w'.ownsMap P 3 ptrElem M n D := by
  obtain ⟨es, clock, hb, r⟩ := hm
  refine ⟨es, clock, ?_, r⟩
  rw [h.block M]
  · exact hb
  · intro a ha e
    obtain ⟨cs, t, hh, ht⟩ := hT a ha
    rw [e, hb] at hh
    cases hh

theorem Body.blocks (hB : Body P B w C M n most size hits misses A D) (a : Addr) (ha : a.block = C ∨ ∃ e ∈ A, a.block = e.E) :
    ∃ (cs : Array Value) (t : TypeId), w.heap[a.block]? = some (.cells cs t (0, 0)) ∧ (t = 55 ∨ t = 57) := by
  rcases ha with ha | ⟨e, he, ha⟩
  · obtain ⟨cs, h1, _⟩ := hB.blk
    exact ⟨cs, 57, by rw [ha]; exact h1, .inr rfl⟩
  · obtain ⟨cs, h1, _⟩ := (hB.els e he).blk
    exact ⟨cs, 55, by rw [ha]; exact h1, .inl rfl⟩

theorem PtrCells.block {a : Addr} (h : PtrCells C A a) : a.block = C ∨ ∃ e ∈ A, a.block = e.E := by
  rcases h with rfl | rfl | ⟨e, he, rfl | rfl⟩
  · exact .inl rfl
  · exact .inl rfl
  · exact .inr ⟨e, he, rfl⟩
  · exact .inr ⟨e, he, rfl⟩
theorem not_ptr {b o : Nat} (h : o < 2 ∨ 5 < o) : ¬ PtrCells C A ⟨b, o, none⟩ := by
  rintro (h1 | h1 | ⟨e, _, h1 | h1⟩) <;> (simp only [Addr.mk.injEq] at h1; omega)

theorem Body.mv (hB : Body P B w C M n most size hits misses A D) (h : Mv (PtrCells C A) w w') : Body P B w' C M n most size hits misses A D := by
  have hT := fun a (ha : PtrCells C A a) => hB.blocks a ha.block
  obtain ⟨cs, h1, h2⟩ := hB.blk
  obtain ⟨cs', h3, h4⟩ := h.kind _ _ _ _ h1
  refine ⟨hB.bC, hB.bM, ⟨cs', h3, by omega⟩, (h.cell _ (not_ptr (by omega))).trans hB.c0, (h.cell _ (not_ptr (by omega))).trans hB.c1, (h.cell _ (not_ptr (by omega))).trans hB.c6, (h.cell _ (not_ptr (by omega))).trans hB.c7, (h.cell _ (not_ptr (by omega))).trans hB.c8, fun e he => ?_, h.map hT hB.mp⟩
  have hE := hB.els e he
  obtain ⟨cs, h1, h2⟩ := hE.blk
  obtain ⟨cs', h3, h4⟩ := h.kind _ _ _ _ h1
  exact ⟨⟨cs', h3, by omega⟩, (h.cell _ (not_ptr (by omega))).trans hE.key, (h.cell _ (not_ptr (by omega))).trans hE.val, h.row hT hE.row, hE.base, hE.wf⟩

/-- a store into one of the cache's counters -/
theorem Body.count (hB : Body P B w C M n most size hits misses A D) (o : Nat) (v : Value) (ho : o = 1 ∨ o = 7 ∨ o = 8) :
    (w.setCell ⟨C, o, none⟩ v).cell? ⟨C, o, none⟩ = some v ∧ (∀ a, a ≠ ⟨C, o, none⟩ → (w.setCell ⟨C, o, none⟩ v).cell? a = w.cell? a) ∧
    (∃ cs, (w.setCell ⟨C, o, none⟩ v).heap[C]? = some (.cells cs 57 (0, 0)) ∧ cs.size = 9) ∧ (∀ e ∈ A, El B (w.setCell ⟨C, o, none⟩ v) e) ∧ (w.setCell ⟨C, o, none⟩ v).ownsMap P 3 ptrElem M n D := by
  have h : Mv (fun a => a = ⟨C, o, none⟩) w (w.setCell ⟨C, o, none⟩ v) := Mv.set _ _ _ _ rfl
  have hT := fun a (ha : a = (⟨C, o, none⟩ : Addr)) => hB.blocks a (.inl (by rw [ha]))
  obtain ⟨cs, h1, h2⟩ := hB.blk
  obtain ⟨cs', h3, h4⟩ := h.kind _ _ _ _ h1
  refine ⟨?_, h.cell, ⟨cs', h3, by omega⟩, fun e he => ?_, h.map hT hB.mp⟩
  · have : ∃ u, w.cell? ⟨C, o, none⟩ = some u := by
      rcases ho with rfl | rfl | rfl
      · exact ⟨_, hB.c1⟩
      · exact ⟨_, hB.c7⟩
      · exact ⟨_, hB.c8⟩
    obtain ⟨u, hu⟩ := this
    exact World.cell?_setCell_same w _ _ hu
  · have hE := hB.els e he
    obtain ⟨cs, h1, h2⟩ := hE.blk
    have hne : C ≠ e.E := by
      intro e1
      obtain ⟨cs', h3, _⟩ := hB.blk
      rw [e1] at h3
      have h9 := h3.symm.trans h1
      simp at h9
    have hc : ∀ j, w.cell? ⟨e.E, j, none⟩ = (w.setCell ⟨C, o, none⟩ v).cell? ⟨e.E, j, none⟩ := fun j => (h.cell _ (by intro e1; simp only [Addr.mk.injEq] at e1; exact hne e1.1.symm)).symm
    exact ⟨⟨cs, by rw [h.block e.E (by intro a ha; rw [ha]; exact hne)]; exact h1, h2⟩, by rw [← hc]; exact hE.key, by rw [← hc]; exact hE.val, h.row hT hE.row, hE.base, hE.wf⟩

theorem ad_ne {b o b' o' : Nat} (h : o ≠ o') : (⟨b, o, none⟩ : Addr) ≠ ⟨b', o', none⟩ := by
  intro e; simp only [Addr.mk.injEq] at e; exact h e.2.1
theorem Body.setSize (hB : Body P B w C M n most size hits misses A D) (s : Int) : Body P B (w.setCell ⟨C, 1, none⟩ (.int .i64 s)) C M n most s hits misses A D := by
  obtain ⟨h1, h2, h3, h4, h5⟩ := hB.count 1 (.int .i64 s) (by simp)
  exact ⟨hB.bC, hB.bM, h3, (h2 _ (ad_ne (by omega))).trans hB.c0, h1, (h2 _ (ad_ne (by omega))).trans hB.c6, (h2 _ (ad_ne (by omega))).trans hB.c7, (h2 _ (ad_ne (by omega))).trans hB.c8, h4, h5⟩
theorem Body.setHits (hB : Body P B w C M n most size hits misses A D) (s : Int) : Body P B (w.setCell ⟨C, 7, none⟩ (.int .i64 s)) C M n most size s misses A D := by
  obtain ⟨h1, h2, h3, h4, h5⟩ := hB.count 7 (.int .i64 s) (by simp)
  exact ⟨hB.bC, hB.bM, h3, (h2 _ (ad_ne (by omega))).trans hB.c0, (h2 _ (ad_ne (by omega))).trans hB.c1, (h2 _ (ad_ne (by omega))).trans hB.c6, h1, (h2 _ (ad_ne (by omega))).trans hB.c8, h4, h5⟩
theorem Body.setMisses (hB : Body P B w C M n most size hits misses A D) (s : Int) : Body P B (w.setCell ⟨C, 8, none⟩ (.int .i64 s)) C M n most size hits s A D := by
  obtain ⟨h1, h2, h3, h4, h5⟩ := hB.count 8 (.int .i64 s) (by simp)
  exact ⟨hB.bC, hB.bM, h3, (h2 _ (ad_ne (by omega))).trans hB.c0, (h2 _ (ad_ne (by omega))).trans hB.c1, (h2 _ (ad_ne (by omega))).trans hB.c6, (h2 _ (ad_ne (by omega))).trans hB.c7, h1, h4, h5⟩

/-- the map's block turned -/
theorem Body.turn (hB : Body P B w C M n most size hits misses A D) {n' : Nat} {D' : DataW Unit} (hg : w.grownBy w' (some M)) (hm : w'.ownsMap P 3 ptrElem M n' D') : Body P B w' C M n' most size hits misses A D' := by
  obtain ⟨es, clock, hb, _⟩ := hB.mp
  have hk : ∀ (i : Nat) (cs : Array Value) (t : TypeId) (mk : Nat × Nat), w.heap[i]? = some (.cells cs t mk) → w'.heap[i]? = some (.cells cs t mk) := by
    intro i cs t mk hh
    rw [hg.block i (Array.getElem?_eq_some_iff.1 hh).1 (by intro e; injection e with e; subst e; rw [hb] at hh; cases hh)]
    exact hh
  have hc : ∀ {a : Addr} {v : Value}, w.cell? a = some v → w'.cell? a = some v := by
    intro a v hc
    cases hb : w.heap[a.block]? with
    | none => simp [World.cell?, hb] at hc
    | some o =>
      cases o with
      | cells cs t mk => rw [World.cell?_of_block (w := w) (by rw [hk _ _ _ _ hb, hb])]; exact hc
      | _ => simp [World.cell?, hb] at hc
  obtain ⟨cs, h1, h2⟩ := hB.blk
  refine ⟨hB.bC, hB.bM, ⟨cs, hk _ _ _ _ h1, h2⟩, hc hB.c0, hc hB.c1, hc hB.c6, hc hB.c7, hc hB.c8, fun e he => ?_, hm⟩
  have hE := hB.els e he
  obtain ⟨cs, h1, h2⟩ := hE.blk
  refine ⟨⟨cs, hk _ _ _ _ h1, h2⟩, hc hE.key, hc hE.val, ⟨hE.row.1, ?_⟩, hE.base, hE.wf⟩
  rcases hE.row.2 with h1 | ⟨g, cap, cur, h1, h2, h3, h4⟩
  · exact .inl h1
  · exact .inr ⟨g, cap, cur, h1, h2, hk _ _ _ _ h3, h4⟩
theorem seg_turn (hg : w.grownBy w' (some M)) (hm : w.ownsMap P 3 ptrElem M n D) : ∀ {L : List Nat} {p q : Node}, Seg w p L q → Seg w' p L q := by
  obtain ⟨es, clock, hb, _⟩ := hm
  have hc : ∀ {a : Addr} {v : Value}, w.cell? a = some v → w'.cell? a = some v := by
    intro a v hc
    refine hg.cell hc (fun e => ?_)
    injection e with e
    rw [← e] at hb
    simp [World.cell?, hb] at hc
  intro L
  induction L with
  | nil => intro p q h; exact ⟨hc h.1, hc h.2⟩
  | cons a L ih => intro p q h; exact ⟨⟨hc h.1.1, hc h.1.2⟩, ih h.2⟩

theorem Body.weaken (hB : Body P B w C M n most size hits misses A D) {A' : List Ent} (h : ∀ e ∈ A', e ∈ A) : Body P B w C M n most size hits misses A' D :=
  ⟨hB.bC, hB.bM, hB.blk, hB.c0, hB.c1, hB.c6, hB.c7, hB.c8, fun e he => hB.els e (h e he), hB.mp⟩
end
end Go.Proofs.Ytdodjjnejpdgcaa
