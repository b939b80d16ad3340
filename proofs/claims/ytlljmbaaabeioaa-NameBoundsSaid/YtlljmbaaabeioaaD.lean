/- Split: the walk. -/
import Derived.Test.YtlljmbaaabeioaaC
import Derived.RangeFuncNested
import Derived.WalkSmall
namespace Go.Proofs.Ytlljmbaaabeioaa
open Go.RowKit

attribute [local go_sem] Oper.semAt_some

def codeOf (p : List UInt8) : Int :=
  if 4096 < p.length then 2 else if p.contains 0 then 6 else if (partsOf p).any (fun s => decide (255 < s.length)) then 1 else if 128 < (partsOf p).length then 3 else 0
def psOf (p : List UInt8) : List (List UInt8) := if codeOf p = 0 then partsOf p else []
def SplitPost (p : List UInt8) (w : World) (e : Ending) (w' : World) : Prop :=
  ∃ v, e = .returned (.tuple #[v, .int .i64 (codeOf p)]) ∧ w'.ownsRow w.heap.size 9 1 v (psOf p).length ((psOf p).map str) ∧ Below w.heap.size w w'

theorem index_byte (p : List UInt8) (c : UInt8) : decide (0 ≤ Lib.indexByte p c) = p.contains c := by
  induction p with
  | nil => rfl
  | cons b p ih =>
    have hge := Lib.indexByte_ge p c
    unfold Lib.indexByte
    rw [List.contains_cons]
    by_cases h : b = c
    · subst h; simp
    · have h1 : (b == c) = false := beq_eq_false_iff_ne.2 h
      have h2 : (c == b) = false := beq_eq_false_iff_ne.2 (fun e => h e.symm)
      rw [h1, h2, Bool.false_or, ← ih]
      simp only [Bool.false_eq_true, if_false]
      by_cases h3 : Lib.indexByte p c = -1
      · rw [h3]; rfl
      · have h4 : (Lib.indexByte p c == -1) = false := beq_eq_false_iff_ne.2 h3
        rw [h4]
        simp only [Bool.false_eq_true, if_false]
        rw [decide_eq_true (by omega : 0 ≤ Lib.indexByte p c), decide_eq_true (by omega : 0 ≤ Lib.indexByte p c + 1)]

theorem ib_any (p : List UInt8) (c : Int) (w : World) : Calls Try.prog 23 #[str p, .int .u8 c] w fun e w' => e = .returned (.int .i64 (Lib.indexByte p c.toNat.toUInt8)) ∧ w = w' := by
  refine (Try.strings_IndexByte ⟨p.toArray⟩ c w).mono ?_
  rintro e w' ⟨rfl, rfl⟩
  exact ⟨by simp, rfl⟩

theorem partsF_any (p : List UInt8) (w : World) : CallsIn Fence.wide 3 Try.prog 24 #[str p] w fun e w' => e = .returned (.func (.func 31) #[] #[.pointer (some ⟨w.heap.size, 0, none⟩)]) ∧ w' = w.alloc (.cells #[str p] 9) := by
  unfold str
  refine callsIn_of_wp Try.func24 rfl trivial ?_ rfl
  simp only [Try.ntmps24, List.size_toArray, List.length_cons, List.length_nil, Nat.reduceAdd, Nat.reduceSub, Array.replicate_succ, Array.replicate_zero, List.push_toArray, List.append_toArray, List.nil_append, List.cons_append]
  gi_wp2
  go_ret
  exact ⟨rfl, rfl⟩

theorem info9 : (Try.prog.info? 9).map (fun i => (i.zero, i.size, i.bytes)) = some (some (.string ⟨#[]⟩), 1, 16) := by kernel_rfl

theorem results_two {tmps : Array Value} {w : World} {b2 b3 : Nat} {v : Value} {c : Int} (h2 : tmps.getD 2 undef = .pointer (some ⟨b2, 0, none⟩)) (h3 : tmps.getD 3 undef = .pointer (some ⟨b3, 0, none⟩))
    (c2 : w.cell? ⟨b2, 0, none⟩ = some v) (c3 : w.cell? ⟨b3, 0, none⟩ = some (.int .i64 c)) : (results Try.f12 tmps).run Try.prog w = .ok (.tuple #[v, .int .i64 c]) w := by
  have h2' : tmps[2]?.getD undef = .pointer (some ⟨b2, 0, none⟩) := by simpa using h2
  have h3' : tmps[3]?.getD undef = .pointer (some ⟨b3, 0, none⟩) := by simpa using h3
  simp [results, h2', h3', asAddr, loadVar, Try.isAgg22, Try.isAgg28, c2, c3, go_sem, Result.andThen]

/-- a part appended to the list in its box -/
theorem collect {W w1 : World} {N : Nat} {v v' : Value} {n m : Nat} {xs ys : List Value} {tmp : Obj} (hv : Boxed W (N + 1 + 1) 22 v) (hrow : W.ownsRow (N + 4) 9 1 v n xs) (hown' : w1.ownsRow (N + 4) 9 1 v' m ys) (hgrow : (W.alloc tmp).grownBy w1 v.ownBlock) (hN : N + 4 ≤ W.heap.size) :
    Boxed w1 (N + 1 + 1) 22 v ∧ Boxed (w1.setCell ⟨N + 1 + 1, 0, none⟩ v') (N + 1 + 1) 22 v' ∧ (w1.setCell ⟨N + 1 + 1, 0, none⟩ v').ownsRow (N + 4) 9 1 v' m ys ∧ KeepsOthers W (w1.setCell ⟨N + 1 + 1, 0, none⟩ v') ∧ Below N W (w1.setCell ⟨N + 1 + 1, 0, none⟩ v') ∧
    (∀ (B : Nat) (t : TypeId) (u : Value), t ≠ 9 → B ≠ N + 1 + 1 → Boxed W B t u → Boxed (w1.setCell ⟨N + 1 + 1, 0, none⟩ v') B t u) ∧ (w1.setCell ⟨N + 1 + 1, 0, none⟩ v').heap[N + 1 + 1 + 1]? = W.heap[N + 1 + 1 + 1]? := by
  have hv1 : Boxed w1 (N + 1 + 1) 22 v := (hv.alloc tmp).kept hgrow (hv.not_row (by decide) hrow)
  have hge : ∀ j, v.ownBlock = some j → N + 4 ≤ j := fun j hj => (hrow.lt j hj).1
  refine ⟨hv1, hv1.set v', ownsRow_setCell_below hown' (by show N + 1 + 1 < N + 4; omega) v', ?_, ?_, fun B t u ht hB hb => ?_, ?_⟩
  · refine ((KeepsOthers.alloc W tmp).trans (KeepsOthers.of_grownBy hgrow fun j o ej hj => ?_)).trans (KeepsOthers.setCell _ _ _)
    rcases (hrow.alloc tmp).2 with ⟨h1, _⟩ | ⟨g, cap, cur, h1, _, hg, _⟩
    · rw [h1] at ej; cases ej
    · rw [h1] at ej
      injection ej with ej
      have ej : g = j := ej
      subst ej
      rw [hg] at hj; injection hj with hj; rw [← hj]; rfl
  · exact (((Below.refl N W).alloc (by omega) tmp).grown hgrow (by simp; omega) (fun j ej => by have := hge j ej; omega)).setCell (p := ⟨N + 1 + 1, 0, none⟩) (by show N ≤ N + 1 + 1; omega) v'
  · exact ((hb.alloc tmp).kept hgrow (hb.not_row ht hrow)).other hB v'
  · rw [Below.heap_setCell w1 _ v' _ (by show N + 1 + 1 + 1 ≠ N + 1 + 1; omega), hgrow.block _ (by simp; omega) (fun e => by have := hge _ e.symm; omega)]
    exact Below.heap_alloc W tmp _ (by omega)

theorem row_form {W : World} {B : Nat} {v : Value} {n : Nat} {xs : List Value} (h : W.ownsRow B 9 1 v n xs) : ∃ a c, v = .slice a n c := by
  rcases h.2 with ⟨h1, h2⟩ | ⟨g, cap, cur, h1, _⟩
  · exact ⟨none, 0, by rw [h1, h2]⟩
  · exact ⟨_, cap, h1⟩
theorem row_low {W : World} {B B' : Nat} {v : Value} {n : Nat} {xs : List Value} (h : W.ownsRow B 9 1 v n xs) (hb : B' ≤ B) : W.ownsRow B' 9 1 v n xs := by
  refine ⟨h.1, ?_⟩
  rcases h.2 with h1 | ⟨g, cap, cur, h1, h2, h3⟩
  · exact .inl h1
  · exact .inr ⟨g, cap, cur, h1, by omega, h3⟩
theorem boxed_putD {W : World} {B t D : Nat} {v : Value} {o : Obj} (h : Boxed W B t v) (hd : W.heap[D]? = some o) (ho : o.isCells = false) (o' : Obj) : Boxed (W.putObj D o') B t v :=
  (World.putObj_heap_other (fun e => by
    have h2 := h; rw [e] at h2; have h3 := hd.symm.trans h2; injection h3 with h3; rw [h3] at ho; cases ho)).trans h
theorem below_putD {W w : World} {N D : Nat} (h : Below N w W) (hN : N ≤ W.heap.size) (hD : N ≤ D) (o' : Obj) : Below N w (W.putObj D o') :=
  h.grown (grownBy_putObj' W D o') hN (fun k e => by cases e; exact hD)

set_option maxRecDepth 100000 in
set_option maxHeartbeats 2000000 in
theorem split_any (p : List UInt8) (m : Int) (w : World) (hp : p.length ≤ 1000000) (hm : w.cell? ⟨0, 0, none⟩ = some (.int .i64 m)) : Calls Try.prog 12 #[str p] w (SplitPost p w) := by
  obtain ⟨i0, hi, hz0, hz1, hz2⟩ := info_parts info9
  have HM := Lib.hid hm
  clear hm
  refine (callsIn_wide (n := 4)).1 (callsIn_of_wp_marks Try.func12 rfl trivial ?_ rfl)
  simp only [Try.ntmps12, List.size_toArray, List.length_cons, List.length_nil, Nat.reduceAdd, Nat.reduceSub, Array.replicate_succ, Array.replicate_zero, List.push_toArray, List.append_toArray, List.nil_append, List.cons_append]
  unfold str
  by_cases h1 : 4096 < p.length
  · have HC : Hid (codeOf p = 2) := Lib.hid (by unfold codeOf; rw [if_pos h1])
    gi_wp2
    refine ⟨_, results_two (v := .slice none 0 0) (c := 2) rfl rfl (by simp) (by simp), _, by rw [HC.out], by unfold psOf; rw [HC.out]; exact World.ownsRow_nil _ _ _ _, ?_⟩
    exact ((Below.refl _ _).alloc (Nat.le_refl _) _).alloc (by simp) _
  · by_cases h2 : p.contains 0 = true
    · have HC : Hid (codeOf p = 6) := Lib.hid (by unfold codeOf; rw [if_neg h1, if_pos h2])
      have HI : Hid (∀ w, Calls Try.prog 23 #[str p, .int .u8 0] w fun e w' => e = .returned (.int .i64 (Lib.indexByte p 0)) ∧ w = w') := Lib.hid (fun w => ib_any p 0 w)
      have hz : 0 ≤ Lib.indexByte p 0 := by have := index_byte p 0; rw [h2] at this; simpa using this
      generalize Lib.indexByte p 0 = ix at *
      unfold str at HI
      gi_wp2
      refine ⟨trivial, ?_⟩
      refine (callsIn_wide.2 (HI.out _)).mono ?_
      rintro e w2 ⟨rfl, rfl⟩
      gi_wp2
      refine ⟨_, results_two (v := .slice none 0 0) (c := 6) rfl rfl (by simp) (by simp), _, by rw [HC.out], by unfold psOf; rw [HC.out]; exact World.ownsRow_nil _ _ _ _, ?_⟩
      exact ((Below.refl _ _).alloc (Nat.le_refl _) _).alloc (by simp) _
    · have h2' : p.contains 0 = false := by simpa using h2
      have HI : Hid (∀ w, Calls Try.prog 23 #[str p, .int .u8 0] w fun e w' => e = .returned (.int .i64 (Lib.indexByte p 0)) ∧ w = w') := Lib.hid (fun w => ib_any p 0 w)
      have hz : Lib.indexByte p 0 < 0 := by have := index_byte p 0; rw [h2'] at this; simpa using this
      have HPA := Lib.hid (partsF_any p)
      have HQ := Lib.hid h2'
      clear h2 h2'
      generalize Lib.indexByte p 0 = ix at *
      unfold str at HI HPA
      gi_wp2
      refine ⟨trivial, ?_⟩
      refine (callsIn_wide.2 (HI.out _)).mono ?_
      rintro e w2 ⟨rfl, rfl⟩
      gi_wp2
      refine ⟨trivial, ?_⟩
      refine (HPA.out _).mono ?_
      rintro e w2 ⟨rfl, rfl⟩
      gi_wp2
      have hN : 0 < w.heap.size := World.block_lt_of_cell? w ⟨0, 0, none⟩ HM.out
      have HB0 : Hid (Below w.heap.size w ((((w.alloc (.cells #[.slice none 0 0] 22)).alloc (.cells #[.int .i64 0] 28)).alloc (.cells #[.slice none 0 0] 22)).alloc (.cells #[.string { data := p.toArray }] 9))) :=
        Lib.hid (((((Below.refl _ w).alloc (Nat.le_refl _) _).alloc (by simp) _).alloc (by simp; omega) _).alloc (by simp; omega) _)
      have hs4 : ((((w.alloc (.cells #[.slice none 0 0] 22)).alloc (.cells #[.int .i64 0] 28)).alloc (.cells #[.slice none 0 0] 22)).alloc (.cells #[.string { data := p.toArray }] 9)).heap.size = w.heap.size + 1 + 1 + 1 + 1 := by simp
      have b2 : Boxed ((((w.alloc (.cells #[.slice none 0 0] 22)).alloc (.cells #[.int .i64 0] 28)).alloc (.cells #[.slice none 0 0] 22)).alloc (.cells #[.string { data := p.toArray }] 9)) w.heap.size 22 (.slice none 0 0) := (((Boxed.new w 22 _).alloc _).alloc _).alloc _
      have b3 : Boxed ((((w.alloc (.cells #[.slice none 0 0] 22)).alloc (.cells #[.int .i64 0] 28)).alloc (.cells #[.slice none 0 0] 22)).alloc (.cells #[.string { data := p.toArray }] 9)) (w.heap.size + 1) 28 (.int .i64 0) := by
        have h := (((Boxed.new (w.alloc (.cells #[.slice none 0 0] 22)) 28 (.int .i64 0)).alloc (.cells #[.slice none 0 0] 22)).alloc (.cells #[.string { data := p.toArray }] 9))
        rwa [World.size_alloc] at h
      have b4 : Boxed ((((w.alloc (.cells #[.slice none 0 0] 22)).alloc (.cells #[.int .i64 0] 28)).alloc (.cells #[.slice none 0 0] 22)).alloc (.cells #[.string { data := p.toArray }] 9)) (w.heap.size + 1 + 1) 22 (.slice none 0 0) := by
        have h := ((Boxed.new ((w.alloc (.cells #[.slice none 0 0] 22)).alloc (.cells #[.int .i64 0] 28)) 22 (.slice none 0 0)).alloc (.cells #[.string { data := p.toArray }] 9))
        rwa [World.size_alloc, World.size_alloc] at h
      have b5 : Boxed ((((w.alloc (.cells #[.slice none 0 0] 22)).alloc (.cells #[.int .i64 0] 28)).alloc (.cells #[.slice none 0 0] 22)).alloc (.cells #[.string { data := p.toArray }] 9)) (w.heap.size + 1 + 1 + 1) 9 (.string { data := p.toArray }) := by
        have h := (Boxed.new (((w.alloc (.cells #[.slice none 0 0] 22)).alloc (.cells #[.int .i64 0] 28)).alloc (.cells #[.slice none 0 0] 22)) 9 (.string { data := p.toArray }))
        rwa [World.size_alloc, World.size_alloc, World.size_alloc] at h
      generalize (((w.alloc (.cells #[.slice none 0 0] 22)).alloc (.cells #[.int .i64 0] 28)).alloc (.cells #[.slice none 0 0] 22)).alloc (.cells #[.string { data := p.toArray }] 9) = w4 at *
      refine range_parts (Bn := w.heap.size + 1 + 1 + 1) (m := m) (p := p) rfl rfl (by omega) b5
        (fun pre W => ((∀ x ∈ pre, x.length ≤ 255) ∧ ((∃ v, Boxed W (w.heap.size + 1 + 1) 22 v ∧ W.ownsRow (w.heap.size + 4) 9 1 v pre.length (pre.map str) ∧ True) ∧ (Boxed W w.heap.size 22 (.slice none 0 0) ∧ Boxed W (w.heap.size + 1) 28 (.int .i64 0)))) ∧ (w.heap.size + 4 ≤ W.heap.size ∧ Below w.heap.size w W))
        (fun pre W => ((∃ x ∈ pre, 255 < x.length) ∧ (Boxed W w.heap.size 22 (.slice none 0 0) ∧ Boxed W (w.heap.size + 1) 28 (.int .i64 1))) ∧ Below w.heap.size w W)
        (OwnFrom.and (OwnFrom.and (ownFrom_pure _ _) (OwnFrom.and (Own.from (holdsRow_own (w.heap.size + 4) (w.heap.size + 1 + 1) 22 9 1 (fun pre : List (List UInt8) => pre.length) (fun pre => pre.map str) (fun _ _ => True)) _) (OwnFrom.and (Own.from (boxed_own _ _ _) _) (Own.from (boxed_own _ _ _) _)))) (OwnFrom.and (fun _ _ _ _ hs hg _ => Nat.le_trans hs hg.size) (ownFrom_below (Nat.le_refl _) (by omega))))
        (OwnFrom.and (OwnFrom.and (ownFrom_pure _ _) (OwnFrom.and (Own.from (boxed_own _ _ _) _) (Own.from (boxed_own _ _ _) _))) (ownFrom_below (Nat.le_refl _) (by omega)))
        ?hd ?hs ?hm ?h0 (fun x => { tmps := #[.string { data := p.toArray }, undef, .pointer (some ⟨w.heap.size, 0, none⟩), .pointer (some ⟨w.heap.size + 1, 0, none⟩), .pointer (some ⟨w.heap.size + 1 + 1, 0, none⟩), .string { data := x.toArray }, .bool (decide (4096 < (p.length : Int))), .string { data := p.toArray }, .int .i64 p.length,
          .bool (decide (4096 < (p.length : Int))), .bool (decide (0 ≤ ix)), .string { data := p.toArray }, .int .i64 ix, .bool (decide (0 ≤ ix)), .string { data := p.toArray }, .func (.func 31) #[] #[.pointer (some ⟨w.heap.size + 1 + 1 + 1, 0, none⟩)], .string { data := x.toArray }, undef, undef, undef, undef, undef, undef, undef, undef, undef, undef, undef], defers := [] }) ?assign ?body ?done ?stop
      case hd =>
        rintro s W ⟨⟨h1, ⟨v, hv, hr, ht⟩, hb2, hb3⟩, hz, hb⟩ k
        exact ⟨⟨h1, ⟨v, hv, hr, ht⟩, hb2, hb3⟩, hz, below_drewN hb k⟩
      case hs =>
        rintro s W ⟨⟨h1, ⟨v, hv, hr, ht⟩, hb2, hb3⟩, hz, hb⟩ u
        exact ⟨⟨h1, ⟨v, hv.other (by omega) u, ownsRow_setCell_below hr (by show w.heap.size + 1 + 1 + 1 < _; omega) u, ht⟩, hb2.other (by omega) u, hb3.other (by omega) u⟩, Nat.le_trans hz (KeepsOthers.setCell W _ u).size, hb.setCell (p := ⟨w.heap.size + 1 + 1 + 1, 0, none⟩) (by show w.heap.size ≤ w.heap.size + 1 + 1 + 1; omega) u⟩
      case hm =>
        rintro s W ⟨_, _, hb⟩
        exact (hb.cell (p := ⟨0, 0, none⟩) hN).trans HM.out
      case h0 => exact ⟨⟨fun x hx => by simp at hx, ⟨_, b4, World.ownsRow_nil _ _ _ _, trivial⟩, b2, b3⟩, by omega, HB0.out⟩
      case assign =>
        intro l x W K hK
        unfold str
        gi_wp2
        exact hK
      case body =>
        rintro l pre x W ⟨⟨h1, ⟨v, hv, hrow, _⟩, hb2, hb3⟩, hz, hB⟩ hpx
        have hlen : pre.length + 1 ≤ 4096 := by
          have h5 := hpx.length_le
          have h6 := parts_len p.length p (Nat.le_refl _)
          simp at h5; omega
        have HPre := Lib.hid h1
        have HV := Lib.hid hv
        have H2 := Lib.hid hb2
        have H3 := Lib.hid hb3
        have HBW := Lib.hid hB
        have c4 := hv.cell
        clear h1 hpx hB
        by_cases hx : 255 < x.length
        · have c2 := hb2.cell
          have f2 := hb2.frozen
          have c3 := hb3.cell
          have f3 := hb3.frozen
          clear hv hb2 hb3
          gi_wp2
          refine ⟨(KeepsOthers.setCell _ _ _).trans (KeepsOthers.setCell _ _ _), ⟨⟨x, by simp, hx⟩, (H2.out.set _).other (by omega) _, (H3.out.other (by omega) _).set _⟩, (HBW.out.setCell (p := ⟨w.heap.size, 0, none⟩) (Nat.le_refl _) _).setCell (p := ⟨w.heap.size + 1, 0, none⟩) (by show w.heap.size ≤ w.heap.size + 1; omega) _⟩
        · clear hv hb2 hb3
          gi_wp2_with (gi_at_builtin; refine wpListIn_append_own _ rfl _ _ 22 rfl (w.heap.size + 4) 9 i0 (.string ⟨#[]⟩) 1 16 Try.underlying22 hi hz0 hz1 hz2 rfl (by decide) _ _ _ rfl (hrow.alloc _) ⟨W.heap.size, 0, none⟩ 1 1 [.string { data := x.toArray }] rfl rfl (cell_one_new _ _ _) (by simp [Value.oneCell']) (by unfold maxLen; omega) (by omega) (by simp; omega) ?_; intro v' w1 hown' hgrow _; obtain ⟨g', cap', rfl⟩ := ownsRow_succ hown'; obtain ⟨hv1, hv2, hr2, hk2, hbb, hbo, hbn⟩ := collect HV.out hrow hown' hgrow hz; have hc1 := hv1.cell; have hf1 := hv1.frozen)
          refine ⟨hk2, hbn, ⟨fun y hy => ?_, ⟨_, hv2, by simpa [str] using hr2, trivial⟩, hbo _ _ _ (by decide) (by omega) H2.out, hbo _ _ _ (by decide) (by omega) H3.out⟩, Nat.le_trans hz hk2.size, HBW.out.trans hbb⟩
          rcases List.mem_append.1 hy with hy | hy
          · exact HPre.out y hy
          · simp at hy; subst hy; omega
      case done =>
        rintro D W hD ⟨⟨hle, ⟨v, hv, hr, _⟩, hb2, hb3⟩, hz, hB⟩ hdef
        have HDf := Lib.hid hdef
        have H2 := Lib.hid hb2
        have H3 := Lib.hid hb3
        have H4 := Lib.hid hv
        have HBW := Lib.hid hB
        have HRow := Lib.hid hr
        have hany : (partsOf p).any (fun s => decide (255 < s.length)) = false := by
          rw [List.any_eq_false]; intro x hx; have := hle x hx; simp; omega
        have hcode : codeOf p = if 128 < (partsOf p).length then 3 else 0 := by
          unfold codeOf; rw [if_neg h1, HQ.out, hany]; simp
        have HCode := Lib.hid hcode
        obtain ⟨a9, c9, rfl⟩ := row_form hr
        have c4 := hv.cell
        have c2 := hb2.cell
        have f2 := hb2.frozen
        have c3 := hb3.cell
        have f3 := hb3.frozen
        clear hdef hb2 hb3 hv hB hr hle hany hcode
        obtain ⟨np, hnp⟩ : ∃ np, Hid ((partsOf p).length = np) := ⟨_, Lib.hid rfl⟩
        rw [hnp.out] at c4 HRow HCode
        by_cases hmany : 128 < np
        · gi_wp2
          have HK5 := ((KeepsOthers.setCell W ⟨w.heap.size, 0, none⟩ (.slice none 0 0)).trans (KeepsOthers.setCell _ ⟨w.heap.size + 1, 0, none⟩ (.int .i64 3))).same D _ HDf.out rfl
          have B5 : Below w.heap.size w ((W.setCell ⟨w.heap.size, 0, none⟩ (.slice none 0 0)).setCell ⟨w.heap.size + 1, 0, none⟩ (.int .i64 3)) := (HBW.out.setCell (p := ⟨w.heap.size, 0, none⟩) (Nat.le_refl _) _).setCell (p := ⟨w.heap.size + 1, 0, none⟩) (by show w.heap.size ≤ w.heap.size + 1; omega) _
          have HC3 : codeOf p = 3 := by rw [HCode.out, if_pos hmany]
          refine ⟨by simp, .inl ⟨_, _, rfl, run_takeDeferred HK5, ?_⟩⟩
          refine ⟨_, results_two (v := .slice none 0 0) (c := 3) rfl rfl (boxed_putD ((H2.out.set _).other (by omega) _) HK5 rfl _).cell (boxed_putD ((H3.out.other (by omega) _).set _) HK5 rfl _).cell, _, by rw [HC3], by unfold psOf; rw [HC3]; exact World.ownsRow_nil _ _ _ _, below_putD B5 B5.size (by omega) _⟩
        · gi_wp2
          have HK5 := ((KeepsOthers.setCell W ⟨w.heap.size, 0, none⟩ (.slice a9 np c9)).trans (KeepsOthers.setCell _ ⟨w.heap.size + 1, 0, none⟩ (.int .i64 0))).same D _ HDf.out rfl
          have B5 : Below w.heap.size w ((W.setCell ⟨w.heap.size, 0, none⟩ (.slice a9 np c9)).setCell ⟨w.heap.size + 1, 0, none⟩ (.int .i64 0)) := (HBW.out.setCell (p := ⟨w.heap.size, 0, none⟩) (Nat.le_refl _) _).setCell (p := ⟨w.heap.size + 1, 0, none⟩) (by show w.heap.size ≤ w.heap.size + 1; omega) _
          have HC0 : codeOf p = 0 := by rw [HCode.out, if_neg hmany]
          have HRow0 := ownsRow_putObj (ownsRow_setCell_below (ownsRow_setCell_below HRow.out (a := ⟨w.heap.size, 0, none⟩) (by show w.heap.size < w.heap.size + 4; omega) (.slice a9 np c9)) (a := ⟨w.heap.size + 1, 0, none⟩) (by show w.heap.size + 1 < w.heap.size + 4; omega) (.int .i64 0)) (.deferred none) HK5 rfl
          refine ⟨by simp, .inl ⟨_, _, rfl, run_takeDeferred HK5, ?_⟩⟩
          refine ⟨_, results_two (v := .slice a9 np c9) (c := 0) rfl rfl (boxed_putD ((H2.out.set _).other (by omega) _) HK5 rfl _).cell (boxed_putD ((H3.out.other (by omega) _).set _) HK5 rfl _).cell, _, by rw [HC0], ?_, below_putD B5 B5.size (by omega) _⟩
          unfold psOf
          rw [HC0, if_pos rfl, hnp.out]
          exact row_low HRow0 (by omega)
      case stop =>
        rintro D pre W hD hpre ⟨⟨⟨x, hx, hx2⟩, hb2, hb3⟩, hB⟩ hdef
        have hany : (partsOf p).any (fun s => decide (255 < s.length)) = true := by
          rw [List.any_eq_true]; exact ⟨x, hpre.subset hx, by simpa using hx2⟩
        have HC : Hid (codeOf p = 1) := Lib.hid (by unfold codeOf; rw [if_neg h1, HQ.out, hany]; simp)
        have HDf := Lib.hid hdef
        have H2 := Lib.hid hb2
        have H3 := Lib.hid hb3
        have HBW := Lib.hid hB
        clear hdef hb2 hb3 hB hany hx hx2 hpre
        gi_wp2
        refine ⟨by simp, .inl ⟨_, _, rfl, run_takeDeferred HDf.out, ?_⟩⟩
        refine ⟨_, results_two (v := .slice none 0 0) (c := 1) rfl rfl (boxed_putD H2.out HDf.out rfl _).cell (boxed_putD H3.out HDf.out rfl _).cell, _, by rw [HC.out], by unfold psOf; rw [HC.out]; exact World.ownsRow_nil _ _ _ _, below_putD HBW.out HBW.out.size (by omega) _⟩
end Go.Proofs.Ytlljmbaaabeioaa
