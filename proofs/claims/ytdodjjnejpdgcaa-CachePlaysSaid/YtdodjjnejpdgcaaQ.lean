/- What stands in the rounds of CachePlays: plain facts. -/
import Derived.Test.YtdodjjnejpdgcaaP
import Derived.Test.YtdodjjnejpdgcaaV
namespace Go.Proofs.Ytdodjjnejpdgcaa
open Go.RowKit Go.Maps

/-- the bytes of block X count on -/
def Bump (X n : Nat) (w0 wr : World) : Prop := Mv (fun a => a.block = X ∧ 0 < n) w0 wr ∧ ∀ j, j < n → ∃ v : Int, wr.cell? ⟨X, j, none⟩ = some (.int .u8 v)
theorem Bump.set {X n : Nat} {w0 wr : World} (h : Bump X n w0 wr) {j : Nat} (hj : j < n) (v : Int) : Bump X n w0 (wr.setCell ⟨X, j, none⟩ (.int .u8 v)) := by
  refine ⟨h.1.trans (Mv.set _ _ _ _ ⟨rfl, by omega⟩), fun i hi => ?_⟩
  obtain ⟨u, hu⟩ := h.2 i hi
  by_cases e : i = j
  · subst e
    exact ⟨v, World.cell?_setCell_same _ _ _ hu⟩
  · exact ⟨u, (World.cell?_setCell_other _ _ _ _ (by intro e2; simp only [Addr.mk.injEq] at e2; exact e e2.2.1.symm)).trans hu⟩
theorem Bump.free {X n : Nat} {w0 wr : World} (h : Bump X n w0 wr) {cs : Array Value} (hX : w0.heap[X]? = some (.cells cs 5 (0, 0))) (j : Nat) : wr.frozen? ⟨X, j, none⟩ = false := by
  obtain ⟨cs', h1, _⟩ := h.1.kind _ _ _ _ hX
  exact frozen_at h1 j

section
variable {B : Nat} {w : World} {C M n : Nat} {most hits misses : Int} {L : List Ent} {D : DataW Unit}

theorem CacheAt.old (h : CacheAt B w C M n most hits misses L D) : ∀ e ∈ L, ∀ g, e.bv.ownBlock = some g → g < w.heap.size := fun e he g hg => ((h.body.els e he).row.lt g hg).2

/-- what a cache needs of another world -/
theorem CacheAt.keep {w' : World} (h : CacheAt B w C M n most hits misses L D) (hm1 : ∀ (i : Nat) (cs : Array Value) (t : TypeId), (t = 55 ∨ t = 57) → w.heap[i]? = some (.cells cs t (0, 0)) → w'.heap[i]? = some (.cells cs t (0, 0)))
    (hm2 : ∀ (i : Nat) (o : Obj), (∀ cs t, o ≠ .cells cs t (0, 0)) → w.heap[i]? = some o → w'.heap[i]? = some o) (hm3 : ∀ e ∈ L, ∀ g, e.bv.ownBlock = some g → w'.heap[g]? = w.heap[g]?) : CacheAt B w' C M n most hits misses L D := by
  have hc : ∀ {b o : Nat} {cs : Array Value} {t : TypeId} {v : Value}, w.heap[b]? = some (.cells cs t (0, 0)) → (t = 55 ∨ t = 57) → w.cell? ⟨b, o, none⟩ = some v → w'.cell? ⟨b, o, none⟩ = some v := by
    intro b o cs t v h1 h2 h3
    rw [World.cell?_of_block (w := w) (by rw [h1]; exact hm1 _ _ _ h2 h1)]
    exact h3
  have hB := h.body
  obtain ⟨csC, hC, hC2⟩ := hB.blk
  have hE : ∀ e ∈ L, El B w' e := by
    intro e he
    have hE := hB.els e he
    obtain ⟨cs, h1, h2⟩ := hE.blk
    refine ⟨⟨cs, hm1 _ _ _ (.inl rfl) h1, h2⟩, hc h1 (.inl rfl) hE.key, hc h1 (.inl rfl) hE.val, ⟨hE.row.1, ?_⟩, hE.base, hE.wf⟩
    rcases hE.row.2 with h1 | ⟨g, cap, cur, h1, h2, h3, h4⟩
    · exact .inl h1
    · exact .inr ⟨g, cap, cur, h1, h2, (hm3 e he g (by rw [h1]; rfl)).trans h3, h4⟩
  have hS : ∀ {K : List Nat} {p q : Node}, (∀ x, (x = p ∨ ∃ e ∈ K, x = nd e) → ∃ cs t, w.heap[x.1]? = some (.cells cs t (0, 0)) ∧ (t = 55 ∨ t = 57)) → (∀ x, (x = q ∨ ∃ e ∈ K, x = nd e) → ∃ cs t, w.heap[x.1]? = some (.cells cs t (0, 0)) ∧ (t = 55 ∨ t = 57)) → Seg w p K q → Seg w' p K q := by
    intro K p q h1 h2 hs
    refine hs.same (fun x hx => ?_) (fun x hx => ?_)
    · obtain ⟨cs, t, h3, h4⟩ := h1 x hx
      exact World.cell?_of_block ((hm1 _ _ _ h4 h3).trans h3.symm)
    · obtain ⟨cs, t, h3, h4⟩ := h2 x hx
      exact World.cell?_of_block ((hm1 _ _ _ h4 h3).trans h3.symm)
  have hN : ∀ x, (x = sen C ∨ ∃ e ∈ L.map Ent.E, x = nd e) → ∃ cs t, w.heap[x.1]? = some (.cells cs t (0, 0)) ∧ (t = 55 ∨ t = 57) := by
    rintro x (rfl | ⟨e, he, rfl⟩)
    · exact ⟨csC, 57, hC, .inr rfl⟩
    · obtain ⟨y, hy, rfl⟩ := List.mem_map.1 he
      obtain ⟨cs, h1, _⟩ := (hB.els y hy).blk
      exact ⟨cs, 55, h1, .inl rfl⟩
  refine ⟨⟨hB.bC, hB.bM, ⟨csC, hm1 _ _ _ (.inr rfl) hC, hC2⟩, hc hC (.inr rfl) hB.c0, hc hC (.inr rfl) hB.c1, hc hC (.inr rfl) hB.c6, hc hC (.inr rfl) hB.c7, hc hC (.inr rfl) hB.c8, hE, ?_⟩, hS hN hN h.ring, h.keys, h.mp⟩
  obtain ⟨es, clock, hbm, r⟩ := hB.mp
  exact ⟨es, clock, hm2 _ _ (by intro cs t e; cases e) hbm, r⟩

theorem Mv.stands {T : Addr → Prop} {w w' : World} (hm : Mv T w w') {t0 : TypeId} (hT : ∀ a, T a → ∃ cs, w.heap[a.block]? = some (.cells cs t0 (0, 0))) {i : Nat} {o : Obj} (hi : w.heap[i]? = some o) (ho : ∀ cs, o ≠ .cells cs t0 (0, 0)) : w'.heap[i]? = some o := by
  rw [hm.block i]
  · exact hi
  · intro a ha e
    obtain ⟨cs, hc⟩ := hT a ha
    rw [e, hi] at hc
    injection hc with hc
    exact ho cs hc

theorem CacheAt.bump {T : Addr → Prop} {w' : World} (h : CacheAt B w C M n most hits misses L D) (hm : Mv T w w') (hT : ∀ a, T a → ∃ cs, w.heap[a.block]? = some (.cells cs 5 (0, 0))) (hL : ∀ a, T a → ∀ e ∈ L, ∀ g, e.bv.ownBlock = some g → g ≠ a.block) : CacheAt B w' C M n most hits misses L D := by
  refine h.keep (fun i cs t ht hi => hm.stands hT hi ?_) (fun i o ho hi => hm.stands hT hi (fun cs => ho cs 5)) (fun e he g hg => hm.block g (fun a ha e2 => hL a ha e he g hg e2.symm))
  intro cs' e
  injection e with _ e _
  rcases ht with rfl | rfl <;> cases e
theorem CacheAt.box {w' : World} (h : CacheAt B w C M n most hits misses L D) {R : Nat} {cs : Array Value} (hR : w.heap[R]? = some (.cells cs 43 (0, 0))) (hm : Mv (fun a => a.block = R) w w') : CacheAt B w' C M n most hits misses L D := by
  have hT : ∀ a : Addr, a.block = R → ∃ cs, w.heap[a.block]? = some (.cells cs 43 (0, 0)) := fun a ha => ⟨cs, by rw [ha]; exact hR⟩
  refine h.keep (fun i cs t ht hi => hm.stands hT hi ?_) (fun i o ho hi => hm.stands hT hi (fun cs => ho cs 43)) (fun e he g hg => hm.block g (fun a ha e2 => ?_))
  · intro cs' e
    injection e with _ e _
    rcases ht with rfl | rfl <;> cases e
  · rcases (h.body.els e he).row.2 with h1 | ⟨g', cap, cur, h1, _, h3, _⟩
    · rw [h1.1] at hg; cases hg
    · rw [h1] at hg
      injection hg with hg
      have hg : g' = g := hg
      subst hg
      rw [← e2, ha, hR] at h3
      injection h3 with h3
      injection h3 with _ h3 _
      cases h3
end

theorem rput_mv (w : World) (R : Nat) (x0 x1 x2 x3 : Value) : Mv (fun a => a.block = R) w ((((w.setCell ⟨R, 0, none⟩ x0).setCell ⟨R, 1, none⟩ x1).setCell ⟨R, 2, none⟩ x2).setCell ⟨R, 3, none⟩ x3) :=
  (((Mv.set w ⟨R, 0, none⟩ x0 (fun a => a.block = R) rfl).trans (Mv.set _ ⟨R, 1, none⟩ x1 (fun a => a.block = R) rfl)).trans (Mv.set _ ⟨R, 2, none⟩ x2 (fun a => a.block = R) rfl)).trans (Mv.set _ ⟨R, 3, none⟩ x3 (fun a => a.block = R) rfl)
theorem rput_blk {w : World} {R : Nat} {a b c d : Value} (H : w.heap[R]? = some (.cells #[a, b, c, d] 43 (0, 0))) (x0 x1 x2 x3 : Value) :
    ((((w.setCell ⟨R, 0, none⟩ x0).setCell ⟨R, 1, none⟩ x1).setCell ⟨R, 2, none⟩ x2).setCell ⟨R, 3, none⟩ x3).heap[R]? = some (.cells #[x0, x1, x2, x3] 43 (0, 0)) :=
  set_at (set_at (set_at (set_at H 0 x0) 1 x1) 2 x2) 3 x3
theorem RAt.box {ok : Nat → Prop} {w w' : World} {lv : Value} {L : List Ent} (h : RAt ok w lv L) {R : Nat} {cs : Array Value} (hR : w.heap[R]? = some (.cells cs 43 (0, 0))) (hm : Mv (fun a => a.block = R) w w') : RAt ok w' lv L :=
  h.mv hm (fun a ha => ⟨cs, 43, by rw [ha]; exact hR, by decide, by decide⟩)
theorem BAt.box {ok : Nat → Prop} {w w' : World} {v : Value} {bs : List Int} (h : BAt ok w v bs) {R : Nat} {cs : Array Value} (hR : w.heap[R]? = some (.cells cs 43 (0, 0))) (hm : Mv (fun a => a.block = R) w w') : BAt ok w' v bs :=
  hm.bat h (fun a ha => ⟨cs, 43, by rw [ha]; exact hR, by decide, by decide⟩)

theorem RAt.old {ok : Nat → Prop} {w : World} {lv : Value} {L : List Ent} (h : RAt ok w lv L) : RAt (fun i => i < w.heap.size) w lv L :=
  h.keep fun _ _ _ _ _ h2 => ⟨(Array.getElem?_eq_some_iff.1 h2).1, h2⟩
theorem RAt.weaken {ok ok' : Nat → Prop} {w : World} {lv : Value} {L : List Ent} (h : RAt ok w lv L) (hk : ∀ i, ok i → ok' i) : RAt ok' w lv L :=
  h.keep fun i _ _ _ h1 h2 => ⟨hk i h1, h2⟩

/-- what stands at each round's head -/
def HeadP (C M R : Nat) (most : Int) (k : Nat) (ok : Nat → Prop) (w wr : World) : Prop :=
  ∃ L D n h m lv, CacheAt w.heap.size wr C M n most h m L D ∧ (n ≤ k ∧ L.length ≤ k ∧ 0 ≤ h ∧ h ≤ k ∧ 0 ≤ m ∧ m ≤ k) ∧ (total L ≤ most ∧ ∀ e ∈ L, e.bs.length ≤ 2000) ∧
    RAt ok wr lv L ∧ wr.heap[R]? = some (.cells #[.int .i64 most, lv, .int .i64 h, .int .i64 m] 43 (0, 0)) ∧ Below w.heap.size w wr ∧ (∀ e ∈ L, ∀ g, e.bv.ownBlock = some g → ok g)

theorem HeadP.ext {C M R : Nat} {most : Int} {k : Nat} {ok : Nat → Prop} {w wr w' : World} (h : HeadP C M R most k ok w wr) (hb : Below wr.heap.size wr w') : HeadP C M R most k ok w w' := by
  obtain ⟨L, D, n, h, m, lv, h1, h2, h3, h4, h5, h6, h7⟩ := h
  exact ⟨L, D, n, h, m, lv, h1.ext (Ext.of_below hb), h2, h3, h4.ext (Ext.of_below hb), Ext.of_below hb _ _ h5, h6.trans (hb.mono h6.size), h7⟩

theorem HeadP.bump {C M R : Nat} {most : Int} {k X n : Nat} {w w0 wr : World} (h : HeadP C M R most k (fun i => 0 < n → i ≠ X) w w0) (hb : Bump X n w0 wr) (hX : 0 < n → w.heap.size ≤ X ∧ ∃ cs, w0.heap[X]? = some (.cells cs 5 (0, 0))) : HeadP C M R most k (fun _ => True) w wr := by
  obtain ⟨L, D, n', h, m, lv, h1, h2, h3, h4, h5, h6, h7⟩ := h
  refine ⟨L, D, n', h, m, lv, h1.bump hb.1 ?_ ?_, h2, h3, h4.keep ?_, ?_, h6.trans (hb.1.below ?_), fun _ _ _ _ => trivial⟩
  · rintro a ⟨h8, h9⟩
    rw [h8]; exact (hX h9).2
  · rintro a ⟨h8, h9⟩ e he g hg
    rw [h8]; exact h7 e he g hg h9
  · intro i cs t _ h8 h9
    refine ⟨trivial, ?_⟩
    rw [hb.1.block i]
    · exact h9
    · rintro a ⟨ha, hn⟩ e
      exact h8 hn (by rw [← e, ha])
  · rw [hb.1.block R]
    · exact h5
    · rintro a ⟨ha, hn⟩ e
      obtain ⟨cs, hc⟩ := (hX hn).2
      rw [← ha, e, h5] at hc
      injection hc with hc
      injection hc with _ hc _
      cases hc
  · rintro a ⟨ha, hn⟩
    rw [ha]; exact (hX hn).1

/-- a row of bytes of the call's own -/
theorem byte_row {w : World} {base : Nat} {v : Value} {n : Nat} {xs : List Int} (h : w.ownsRow base 5 1 v n (xs.map (Value.int .u8))) :
    ∃ a c X, v = .slice a n c ∧ (0 < n → a = some ⟨X, 0, none⟩ ∧ base ≤ X ∧ X < w.heap.size ∧ (∃ cs, w.heap[X]? = some (.cells cs 5 (0, 0))) ∧ ∀ j, j < n → ∃ z : Int, w.cell? ⟨X, j, none⟩ = some (.int .u8 z)) := by
  have h0 := h
  obtain ⟨hl, h2 | ⟨g, cap, cur, h1, h2, h3, h4⟩⟩ := h
  · exact ⟨none, 0, 0, by rw [h2.1, h2.2], fun hn => by omega⟩
  · refine ⟨_, cap, g, h1, fun _ => ⟨rfl, h2, (Array.getElem?_eq_some_iff.1 h3).1, ⟨cur, h3⟩, fun j hj => ?_⟩⟩
    have hl' : xs.length = n := by simpa using hl
    have h5 := h0.cells (g := g) (by rw [h1]; rfl) j (.int .u8 (xs[j]'(by omega))) (by rw [List.getElem?_map, List.getElem?_eq_getElem (by omega)]; rfl)
    rw [addr_add, Nat.zero_add] at h5
    exact ⟨_, h5⟩

theorem conv_bat {ok : Nat → Prop} {w : World} {v : Value} {bs : List Int} (h : BAt ok w v bs) : (convert 30 9 v).run Try.prog w = .ok (.string (strOfNums bs)) w := by
  obtain ⟨b, c, cs, rfl, _, h3, h4⟩ := h
  exact conv_in (B := b + 1) ⟨rfl, .inr ⟨_, rfl, .inr ⟨b, 0, rfl, by omega, fun j hj => by rw [Nat.zero_add]; exact cell_of h3 (h4 j hj)⟩⟩⟩

theorem rget_found {ok : Nat → Prop} {w : World} {lv : Value} {L : List Ent} (hR : RAt ok w lv L) (hok : ∀ i, w.heap.size ≤ i → ok i) (hL : L.length ≤ 1000) (most h m : Int) (hh : 0 ≤ h ∧ h ≤ 1000000) {x : Ent} (he : x ∈ L) (hnd : (L.map Ent.key).Nodup) {k : Int} (hk : x.key = k) :
    Calls Try.prog 15 #[rv most lv h m, .int .i64 k] w (RHitPost ok most h m (x :: L.filter fun e => e.key != x.key) x.bs w) := by
  obtain ⟨i, hi, rfl⟩ := List.getElem_of_mem he
  subst hk
  refine rget_hit hR hok hL most h m hh hi (fun j hj hji e => ?_)
  have h1 : (L.map Ent.key)[j]'(by simpa using hj) = (L.map Ent.key)[i]'(by simpa using hi) := by simpa using e
  have := (List.getElem_inj hnd).1 h1
  omega
end Go.Proofs.Ytdodjjnejpdgcaa
