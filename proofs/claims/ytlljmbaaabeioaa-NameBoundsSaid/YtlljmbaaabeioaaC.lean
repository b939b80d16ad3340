/- A range over the iterator of a path's parts: the statement's law. -/
import Derived.Test.YtlljmbaaabeioaaB
namespace Go.Proofs.Ytlljmbaaabeioaa
open Go.RowKit

/-- how a round's body may be left -/
def roundEnd (Bn : Nat) (I Ix : List (List UInt8) → World → Prop) (xs : List (List UInt8)) (W : World) : Exit → Act → World → Prop
  | .normal, _, W' => KeepsOthers W W' ∧ W'.heap[Bn]? = W.heap[Bn]? ∧ I xs W'
  | .ret, _, W' => KeepsOthers W W' ∧ Ix xs W'
  | _, _, _ => False

theorem set_other {w : World} {Bn k : Nat} {u : Value} {o : Obj} (h : w.heap[k]? = some o) (ho : o.isCells = false) : (w.setCell ⟨Bn, 0, none⟩ u).heap[k]? = some o := (KeepsOthers.setCell w _ u).same k o h ho

theorem range_parts {Bn : Nat} {m : Int} {ps : Array Tmp} {g : Operand} {assign body : Code} {Q : Exit → Act → World → Prop} {a : Act} {w : World} (hps : ps.size = 1)
    (hg : a.eval g = .func (.func 31) #[] #[.pointer (some ⟨Bn, 0, none⟩)]) {p : List UInt8} (hp : p.length < 4294967281) (hb : Boxed w Bn 9 (str p))
    (I Ix : List (List UInt8) → World → Prop) (hI : OwnFrom w.heap.size I) (hIx : OwnFrom w.heap.size Ix)
    (hId : ∀ s W, I s W → ∀ k, I s (W.drewN k)) (hIs : ∀ s W, I s W → ∀ u, I s (W.setCell ⟨Bn, 0, none⟩ u)) (hIm : ∀ s W, I s W → W.cell? ⟨0, 0, none⟩ = some (.int .i64 m)) (h0 : I [] w) (a₁ : List UInt8 → Act)
    (hassign : ∀ (l : Nat) (x : List UInt8) (W : World) (K : Act → World → Prop), K (a₁ x) W →
      assign.wpIn (Fence.wide.inRound l) 2 Try.prog (Exit.then K (fun _ _ _ => False)) { tmps := (ps.zip #[str x]).foldl (fun t (p, v) => t.setIfInBounds p v) a.tmps, defers := [] } W)
    (hbody : ∀ (l : Nat) (pre : List (List UInt8)) (x : List UInt8) (W : World), I pre W → pre ++ [x] <+: partsOf p → body.wpIn (Fence.wide.inRound l) 2 Try.prog (roundEnd Bn I Ix (pre ++ [x]) W) (a₁ x) W)
    (hdone : ∀ (D : Nat) (W : World), w.heap.size ≤ D → I (partsOf p) W → W.heap[D]? = some (.deferred (some [])) → Q .normal { a with defers := { target := .collected D, args := #[] } :: a.defers } W)
    (hstop : ∀ (D : Nat) (pre : List (List UInt8)) (W : World), w.heap.size ≤ D → pre <+: partsOf p → Ix pre W → W.heap[D]? = some (.deferred (some [])) → Code.ret.wpIn Fence.wide 4 Try.prog Q { a with defers := { target := .collected D, args := #[] } :: a.defers } W) :
    (Code.rangeFunc g ps assign body).wpIn Fence.wide 4 Try.prog Q a w := by
  refine wpIn_rangeFunc fun fn hfn => ?_
  let D := w.heap.size
  let l := w.heap.size + 1
  let rec_ (st : LoopState) (pe : Option Code) : Loop := { state := st, pending := pe, fn, tmps := a.tmps, params := ps, assign, body, defers := D }
  let W1 := (w.alloc (.deferred (some []))).alloc (.loop (rec_ .ready none))
  have hl1 : W1.heap[l]? = some (.loop (rec_ .ready none)) := by
    have h := World.alloc_heap_new (w.alloc (.deferred (some []))) (.loop (rec_ .ready none))
    rwa [World.size_alloc] at h
  have hD1 : W1.heap[D]? = some (.deferred (some [])) := (Below.heap_alloc _ _ _ (by simp [D])).trans (World.alloc_heap_new w _)
  have hI1 : I [] W1 := hI.alloc _ (hI.alloc _ h0)
  have hne : D ≠ l := by simp only [D, l]; omega
  refine ⟨l, [{ target := .collected D, args := #[] }], W1, { target := .fn (.func 31) #[.pointer (some ⟨Bn, 0, none⟩)], args := #[.func (.yield l) #[] #[]] }, W1, 31, #[.func (.yield l) #[] #[], .pointer (some ⟨Bn, 0, none⟩)], W1, run_enterLoop_outer _ _ _ _ _, ?_, fun _ _ => trivial, ?_, fun h => (by cases h), ?_⟩
  · simp only [resolve, hg]
    simp [go_sem]
  · have hent := enters_of Try.func31 (by kernel_rfl) rfl
    simp [invoke, go_sem, hent _ _]
  · have HR := parts_in l Bn m (fun s W => I s W ∧ W.heap[l]? = some (.loop (rec_ .ready none)) ∧ W.heap[D]? = some (.deferred (some [])))
      (fun s W => Ix s W ∧ W.heap[l]? = some (.loop (rec_ .done (some .ret))) ∧ W.heap[D]? = some (.deferred (some [])))
      (fun s W h k => ⟨hId s W h.1 k, h.2.1, h.2.2⟩)
      (fun s W h u => ⟨hIs s W h.1 u, set_other h.2.1 rfl, set_other h.2.2 rfl⟩)
      (fun s W h => hIm s W h.1) p ?round hp W1 ((hb.alloc _).alloc _) ⟨hI1, hl1, hD1⟩
    case round =>
      rintro pre x W ⟨hi, hl, hd⟩ hpx
      have hlt : l < W.heap.size := (Array.getElem?_eq_some_iff.1 hl).1
      have hlD : w.heap.size ≤ l := by simp only [l]; omega
      refine ⟨fn, _, assign, body, run_yield (P := Try.prog) (args := #[str x]) hl (by show 1 = ps.size; rw [hps]), roundIn_of_wpIn hfn (hassign l x W _ ⟨_, run_beginRound hl rfl, ?_⟩)⟩
      let Wb := W.putObj l (.loop { rec_ .ready none with state := .busy })
      have hlb : Wb.heap[l]? = some (.loop { rec_ .ready none with state := .busy }) := World.putObj_heap_same hlt
      have hdb : Wb.heap[D]? = some (.deferred (some [])) := (World.putObj_heap_other hne).trans hd
      have hbox : ∀ W' : World, Wb.heap[Bn]? = W.heap[Bn]? := fun _ => World.putObj_heap_other (fun e => by
        have h1 := hb.lt
        simp only [l] at e; omega)
      refine wpIn_mono (hbody l pre x Wb (hI.putObj _ hi hlD hl rfl) hpx) ?_
      intro e a3 W3 hq
      cases e with
      | normal =>
        obtain ⟨hk, hbn, hi3⟩ := hq
        have hl3 := hk.same _ _ hlb rfl
        have hd3 := hk.same _ _ hdb rfl
        have hlt3 : l < W3.heap.size := (Array.getElem?_eq_some_iff.1 hl3).1
        refine ⟨_, _, run_endRound none hl3, .inl ⟨rfl, ⟨hI.putObj _ hi3 hlD hl3 rfl, World.putObj_heap_same hlt3, (World.putObj_heap_other hne).trans hd3⟩, ?_⟩⟩
        exact (World.putObj_heap_other (fun e => by have h1 := hb.lt; simp only [l] at e; omega)).trans (hbn.trans (hbox W))
      | ret =>
        obtain ⟨hk, hi3⟩ := hq
        have hl3 := hk.same _ _ hlb rfl
        have hd3 := hk.same _ _ hdb rfl
        have hlt3 : l < W3.heap.size := (Array.getElem?_eq_some_iff.1 hl3).1
        exact ⟨_, _, run_endRound (some .ret) hl3, .inr ⟨rfl, hIx.putObj _ hi3 hlD hl3 rfl, World.putObj_heap_same hlt3, (World.putObj_heap_other hne).trans hd3⟩⟩
      | exit id => exact hq.elim
      | goto t => exact hq.elim
      | panic c => exact hq.elim
      | outgrown => exact hq.elim
    refine HR.mono ?_
    have hlD : w.heap.size ≤ l := by simp only [l]; omega
    rintro e W2 ⟨⟨v, rfl⟩, (⟨hi, hl, hd⟩ | ⟨pre, hpre, hi, hl, hd⟩)⟩
    · exact ⟨none, _, run_endLoop hl (by intro h; cases h), hdone D _ (Nat.le_refl _) (hI.putObj _ hi hlD hl rfl) ((World.putObj_heap_other hne).trans hd)⟩
    · exact ⟨some .ret, _, run_endLoop hl (by intro h; cases h), hstop D pre _ (Nat.le_refl _) hpre (hIx.putObj _ hi hlD hl rfl) ((World.putObj_heap_other hne).trans hd)⟩
end Go.Proofs.Ytlljmbaaabeioaa
