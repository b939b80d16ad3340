/- Lists of texts as arguments; what is too much; NameOrders: the walk. -/
import Derived.Test.YtlljmbaaabeioaaH
import Derived.SliceStrings
import Derived.ProofKit
import Derived.Laws.AppendOwnNone
namespace Go.Proofs.Ytlljmbaaabeioaa
open Go.RowKit Go.ChangeShapes Go.WideShapes Go.ChangeAt

section
variable {H : Type} {enc : TypeId × Value → H} {w : World} {base : Nat} {held : Bool}
/-- an argument: a list of texts -/
def LAt (w : World) (a : Option Addr) (l c : Nat) (ps : List (List UInt8)) : Prop :=
  ps.length = l ∧ (a = none → l = 0 ∧ c = 0) ∧ ∀ i (_ : i < ps.length), ∃ b off, a = some ⟨b, off, none⟩ ∧ w.cell? ⟨b, off + i, none⟩ = some (str ps[i])
theorem LAt.sat {w : World} {a : Option Addr} {l c : Nat} {ps : List (List UInt8)} (h : LAt w a l c ps) : SAt w (.slice a l c) ps :=
  ⟨a, c, by rw [h.1], h.2.2⟩
theorem list_of {a : Option Addr} {l c : Nat} {d : DataW H} {q : List MemPlace} (h : DataW.Trod enc Try.prog w base (fun _ => true) held 22 (.slice a l c) d q) : ∃ ps, LAt w a l c ps := by
  obtain ⟨fuel, hf⟩ := h
  have hf' : DataW.trod enc Try.prog w base (fun _ => true) held fuel 22 [.slice a l c] = some (d, q) := by simpa [Value.cells] using hf
  rcases open_strings Try.underlying22 Try.underlying9 (by kernel_rfl) hf' with ⟨hcs, _⟩ | ⟨x, l', c', ss, hcs, _, hl, _, hz, _, hcell, _⟩
  · simp at hcs
    obtain ⟨rfl, rfl, rfl⟩ := hcs
    exact ⟨[], rfl, fun _ => ⟨rfl, rfl⟩, fun i hi => by simp at hi⟩
  · simp at hcs hz
    obtain ⟨rfl, rfl, rfl⟩ := hcs
    refine ⟨(ss.take l).map (fun s => s.data.toList), by simp; omega, (fun h => by cases h), fun i hi => ?_⟩
    have hi' : i < l := by simp at hi; omega
    have hc := hcell i (by omega)
    obtain ⟨b, off, rfl⟩ : ∃ b off, x = ⟨b, off, none⟩ := by
      obtain ⟨b, off, spot⟩ := x
      have h0 := hcell 0 (by omega)
      have hs : spot = none := by simpa [Addr.add] using World.cell?_spot h0
      subst hs; exact ⟨b, off, rfl⟩
    refine ⟨b, off, rfl, ?_⟩
    have e : (⟨b, off, none⟩ : Addr).add i = ⟨b, off + i, none⟩ := by cases i <;> simp [Addr.add]
    rw [e] at hc
    rw [hc]
    have hi2 : i < ss.length := by omega
    simp [str, List.getD_eq_getElem?_getD, hi2]
end

def muchB (ps : List (List UInt8)) : Bool := decide (300 < ps.length) || ps.any (fun p => decide (5000 < p.length))
theorem much_no {ps : List (List UInt8)} (h : muchB ps = false) : ps.length ≤ 300 ∧ ∀ p ∈ ps, p.length ≤ 5000 := by
  unfold muchB at h
  rw [Bool.or_eq_false_iff] at h
  refine ⟨by simpa using h.1, fun p hp => ?_⟩
  have := List.any_eq_false.1 h.2 p hp
  simpa using this

set_option maxHeartbeats 800000 in
theorem much_any {w : World} {v : Value} {ps : List (List UInt8)} (h : SAt w v ps) : Calls Try.prog 7 #[v] w fun e w' => e = .returned (.bool (muchB ps)) ∧ ∃ n, w' = w.drewN n := by
  obtain ⟨a, c, rfl, g⟩ := h
  have HG := Lib.hid g
  clear g
  obtain ⟨n1, hn1⟩ : ∃ n1, Hid (ps.length = n1) := ⟨_, Lib.hid rfl⟩
  rw [hn1.out]
  by_cases h1 : 300 < n1
  · have HV : Hid (muchB ps = true) := Lib.hid (by unfold muchB; rw [hn1.out, decide_eq_true h1]; rfl)
    go_enter Try.func7, Try.ntmps7
    go_wp2_with fail
    go_ret
    exact ⟨by rw [HV.out]; rfl, 0, rfl⟩
  · have HD1 : Hid (decide (300 < ps.length) = false) := Lib.hid (by rw [hn1.out, decide_eq_false h1])
    go_enter Try.func7, Try.ntmps7
    go_wp2_with fail
    go_loopg [3] n1 (fun g i wr => ∃ k : Nat, k + g = n1 ∧ i = .int .i64 k ∧ Hid (∃ n, wr = w.drewN n) ∧ Hid ((ps.take k).any (fun p => decide (5000 < p.length)) = false))
    case atStart => exact ⟨0, by omega, rfl, Lib.hid ⟨0, rfl⟩, Lib.hid rfl⟩
    case round =>
      obtain ⟨k, hk, rfl, HD, HT⟩ := hrel
      by_cases hlt : k < n1
      · have hk1 : k < ps.length := by rw [hn1.out]; exact hlt
        obtain ⟨b1, o1, rfl, q1⟩ := HG.out k hk1
        have r1 : wr.cell? ⟨b1, o1 + k, none⟩ = some (str ps[k]) := by obtain ⟨n, hn⟩ := HD.out; rw [hn]; exact q1
        have HA : Hid (5000 < ps[k].length → muchB ps = true) := Lib.hid (fun h => by
          unfold muchB; rw [Bool.or_eq_true]; exact .inr (List.any_eq_true.2 ⟨_, List.getElem_mem hk1, decide_eq_true h⟩))
        have HB : Hid (¬ 5000 < ps[k].length → (ps.take (k + 1)).any (fun p => decide (5000 < p.length)) = false) := Lib.hid (fun h => by
          rw [List.take_succ_eq_append_getElem hk1, List.any_append, HT.out]; simpa using h)
        clear q1
        generalize ps[k] = x at *
        clear hk1
        unfold str at r1
        by_cases hx : 5000 < x.length
        · have HV := Lib.hid (HA.out hx)
          go_wp2_with fail
          go_ret
          exact ⟨by rw [HV.out]; rfl, HD.out⟩
        · have HV := Lib.hid (HB.out hx)
          go_wp2_with fail
          go_roundg (n1 - (k + 1))
          case measure => omega
          case rel => exact ⟨k + 1, by omega, by go_num, HD, HV⟩
      · have HV : Hid (muchB ps = false) := Lib.hid (by
          have h := HT.out
          rw [List.take_of_length_le (by rw [hn1.out]; omega)] at h
          unfold muchB; rw [HD1.out, h]; rfl)
        go_wp2_with fail
        go_ret
        exact ⟨by rw [HV.out]; rfl, HD.out⟩

theorem lat_news {w W : World} {ad : Addr} {l c : Nat} {ps : List (List UInt8)} (h : LAt w (some ad) l c ps) (hb : Below w.heap.size w W) : ∀ j u, (ps.map str)[j]? = some u → W.cell? (ad.add j) = some u := by
  intro j u hj
  have hj2 : j < ps.length := by
    have := (List.getElem?_eq_some_iff.1 hj).1; simpa using this
  obtain ⟨b', o', e, hc⟩ := h.2.2 j hj2
  injection e with e
  subst e
  have e2 : (⟨b', o', none⟩ : Addr).add j = ⟨b', o' + j, none⟩ := by cases j <;> simp [Addr.add]
  rw [e2, (hb.cell (p := ⟨b', o' + j, none⟩) (World.block_lt_of_cell? w _ hc)), hc, ← hj, List.getElem?_map, List.getElem?_eq_getElem hj2]; rfl

/-- a list one text longer, as the law makes it -/
theorem made_empty (w : World) (B : Nat) (hB : B ≤ w.heap.size) : (w.alloc (.cells #[] 9)).ownsRow B 9 1 (.slice (some ⟨w.heap.size, 0, none⟩) 0 0) 0 [] :=
  World.ownsRow_made w #[] 0 hB (by unfold maxLen; omega) rfl

theorem below_first {w w1 : World} {k : Nat} {g : Nat} (hgs : g = w.heap.size) (hg : ((w.drewN k).alloc (.cells #[] 9)).grownBy w1 (Value.slice (some ⟨g, 0, none⟩) 0 0).ownBlock) : Below w.heap.size w w1 :=
  ((below_drewN (Below.refl _ w) k).alloc (Nat.le_refl _) _).grown hg (by simp) (fun j ej => by
    simp [Value.ownBlock] at ej
    show w.heap.size ≤ j
    omega)
theorem append_none_gen {P : Program} {w : World} {ops : Array Oper} {rest : List Oper} {o : Oper} {a : Act} {Q : Exit → Act → World → Prop} (hgd : o.guard = none) (s x : Operand) (t : TypeId)
    (ho : o.op = .call { callee := .builtin .append, args := #[s, x], argTypes := #[t, t] })
    (base : Nat) (e : TypeId) (i : TypeInfo) (size : Nat) (ht : P.underlying t = some (.slice e)) (hi : P.info? e = some i)
    (v : Value) (n : Nat) (xs : List Value) (hs : a.eval s = v) (hown : w.ownsRow base e size v n xs) (hx : a.eval x = .slice none 0 0)
    (h : ∀ v' w', w'.ownsRow base e size v' n xs → w' = w → wpList P ops Q rest (a.put o.dst v') w') : wpList P ops Q (o :: rest) a w :=
  wpList_append_own_none hgd s x t ho base e i size ht hi v n xs hs hown hx (h v w hown rfl)
theorem longer_sat {w2 : World} {N : Nat} {v2 : Value} {l1 : Nat} {p1 : List (List UInt8)} (h : w2.ownsRow N 9 1 v2 (l1 + 1) (p1.map str ++ [.string ⟨#[120]⟩])) (hl : p1.length = l1) : SAt w2 v2 (p1 ++ [[120]]) := by
  refine SAt.row (B := N) ?_
  rw [List.length_append, hl, List.map_append]
  exact h

theorem longer_nil {w2 : World} {N : Nat} {v2 : Value} {p1 : List (List UInt8)} (h : w2.ownsRow N 9 1 v2 (0 + 1) ([] ++ [.string ⟨#[120]⟩])) (hl : p1 = []) : SAt w2 v2 (p1 ++ [[120]]) := by
  subst hl; exact SAt.row (B := N) h
theorem cell_new_at {w : World} {g : Nat} {v : Value} (hg : g = w.heap.size) : ∀ j u, [v][j]? = some u → (w.alloc (.cells #[v] 9)).cell? ((⟨g, 0, none⟩ : Addr).add j) = some u := by
  subst hg; exact cell_one_new _ _ _

set_option maxRecDepth 100000 in
set_option maxHeartbeats 4000000 in
theorem orders_walk (a1 a2 a3 : Option Addr) (l1 c1 l2 c2 l3 c3 : Nat) (p1 p2 p3 : List (List UInt8)) (m : Int) (w : World) (hm : w.cell? ⟨0, 0, none⟩ = some (.int .i64 m))
    (h1 : LAt w a1 l1 c1 p1) (h2 : LAt w a2 l2 c2 p2) (h3 : LAt w a3 l3 c3 p3) :
    Calls Try.prog 3 #[.slice a1 l1 c1, .slice a2 l2 c2, .slice a3 l3 c3] w fun e w' => e = .returned (.bool true) ∧ Below w.heap.size w w' := by
  have HM := Lib.hid hm
  have hN : 0 < w.heap.size := World.block_lt_of_cell? w ⟨0, 0, none⟩ hm
  have L1 := Lib.hid h1
  have L2 := Lib.hid h2
  have L3 := Lib.hid h3
  have M1 := Lib.hid (fun n => much_any (h1.sat.drewN n))
  have M2 := Lib.hid (fun n => much_any (h2.sat.drewN n))
  have M3 := Lib.hid (fun n => much_any (h3.sat.drewN n))
  have HLive : Hid (∀ n, Calls Try.prog 8 #[] (w.drewN n) fun e w' => e = .returned (.bool true) ∧ Below w.heap.size w w') := Lib.hid (fun n =>
    (live_any m (w.drewN n) hm).mono fun e w' ⟨he, hb⟩ => ⟨he, (below_drewN (Below.refl w.heap.size w) n).trans hb⟩)
  clear hm h1 h2 h3
  cases hm1 : muchB p1
  · cases hm2 : muchB p2
    · cases hm3 : muchB p3
      · have s1 := much_no hm1
        have s2 := much_no hm2
        have s3 := much_no hm3
        have S1 : Short p1 := fun p hp => by have := s1.2 p hp; omega
        have S2 : Short p2 := fun p hp => by have := s2.2 p hp; omega
        have O12 := Lib.hid (fun n => order_any (L1.out.sat.drewN n) (L2.out.sat.drewN n) (by omega))
        have O21 := Lib.hid (fun n => order_any (L2.out.sat.drewN n) (L1.out.sat.drewN n) (by omega))
        have O23 := Lib.hid (fun n => order_any (L2.out.sat.drewN n) (L3.out.sat.drewN n) (by omega))
        have O13 := Lib.hid (fun n => order_any (L1.out.sat.drewN n) (L3.out.sat.drewN n) (by omega))
        have R12 := Lib.hid (fun n => rorder_any (L1.out.sat.drewN n) (L2.out.sat.drewN n) (by omega) S2)
        have E12 := Lib.hid (fun n => same_any (L1.out.sat.drewN n) (L2.out.sat.drewN n) (by omega))
        have HTr := Lib.hid (ordP_ordr.trans p1 p2 p3)
        have e21 : ordP p2 p1 = - ordP p1 p2 := ordP_ordr.anti p1 p2
        have ez : decide (p1 = p2) = (ordP p1 p2 == 0) := by
          rw [Bool.eq_iff_iff, decide_eq_true_iff, beq_iff_eq]; exact (ordP_ordr.zero p1 p2).symm
        have v12 := ordP_ordr.val p1 p2
        have v12a : -1 ≤ ordP p1 p2 := by omega
        have v12b : ordP p1 p2 ≤ 1 := by omega
        rw [e21] at O21
        rw [ez] at E12
        rw [hm1] at M1
        rw [hm2] at M2
        rw [hm3] at M3
        have HS1 := Lib.hid s1
        clear hm1 hm2 hm3 s1 s2 s3 S1 S2 e21 ez v12
        generalize ordP p1 p2 = o at *
        generalize ordP p2 p3 = o2 at *
        generalize ordP p1 p3 = o3 at *
        go_enter Try.func3, Try.ntmps3
        go_wp2_with fail
        refine (M1.out 0).mono ?_
        rintro e w2 ⟨rfl, n1, rfl⟩
        go_wp2_with fail
        refine (M2.out _).mono ?_
        rintro e w2 ⟨rfl, n2, rfl⟩
        go_wp2_with fail
        refine (M3.out _).mono ?_
        rintro e w2 ⟨rfl, n3, rfl⟩
        go_wp2_with fail
        refine (O12.out _).mono ?_
        rintro e w2 ⟨rfl, n4, rfl⟩
        go_wp2_with fail
        refine (R12.out _).mono ?_
        rintro e w2 ⟨rfl, n5, rfl⟩
        go_wp2_with fail
        refine (O21.out _).mono ?_
        rintro e w2 ⟨rfl, n6, rfl⟩
        go_wp2_with fail
        refine (E12.out _).mono ?_
        rintro e w2 ⟨rfl, n7, rfl⟩
        have HNv : Hid (o < 0 → o2 < 0 → o3 < 0) := HTr
        have hne : ∀ u ∈ p1.map str, u.oneCell' = true := by
          intro u hu; obtain ⟨x, _, rfl⟩ := List.mem_map.1 hu; rfl
        have HNE := Lib.hid hne
        clear hne HTr
        obtain ⟨i0, hi, hz0, hz1, hz2⟩ := info_parts info9
        rcases a1 with _ | ad
        · have hl0 : l1 = 0 ∧ c1 = 0 := L1.out.2.1 rfl
          obtain ⟨rfl, rfl⟩ := hl0
          have HP0 : Hid (p1 = []) := Lib.hid (List.length_eq_zero_iff.1 L1.out.1)
          have hp1 : p1.length ≤ 300 := HS1.out.1
          by_cases ho : o < 0
          · by_cases ho2 : o2 < 0
            · have ho3 := HNv.out ho ho2
              go_wp2_with fail
              refine (O23.out _).mono ?_
              rintro e w2 ⟨rfl, n8, rfl⟩
              go_wp2_with fail
              refine (O13.out _).mono ?_
              rintro e w2 ⟨rfl, n9, rfl⟩
              go_wp2_with (at_builtin; refine wpList_append_own _ rfl (.tmp 60) (.tmp 61) 22 rfl w.heap.size 9 i0 (.string ⟨#[]⟩) 1 16 Try.underlying22 hi hz0 hz1 hz2 rfl (by decide) _ 0 [] rfl ((made_empty (w.drewN _) w.heap.size (Nat.le_refl _)).alloc _) ⟨w.heap.size + 1, 0, none⟩ 1 1 [.string ⟨#[120]⟩] rfl rfl (cell_new_at (by simp)) (by simp [Value.oneCell']) (by unfold maxLen; omega) (by omega) (by simp; omega) ?_; intro v9 w9 hown9 hgrow9 _; obtain ⟨a9, c9, rfl⟩ := row_form hown9; have HS9 := Lib.hid (longer_nil hown9 HP0.out); have HB9 := Lib.hid (below_app (made_empty (w.drewN _) w.heap.size (Nat.le_refl _)) ((below_drewN (Below.refl _ _) _).alloc (Nat.le_refl _) _) hgrow9 (by simp)); clear hown9 hgrow9)
              refine (order_any (L1.out.sat.below HB9.out) HS9.out (by omega)).mono ?_
              rintro e w5 ⟨rfl, n10, hw5⟩
              have HB5 := Lib.hid (show Below w.heap.size w w5 from hw5 ▸ below_drewN HB9.out n10)
              have HS5 := Lib.hid (show SAt w5 (.slice a9 (0 + 1) c9) (p1 ++ [[120]]) from hw5 ▸ HS9.out.drewN n10)
              clear hw5
              rw [show ordP p1 (p1 ++ [[120]]) = -1 from lexC_longer ordT_ordr p1 [120]]
              go_wp2_with fail
              refine (order_any HS5.out (L1.out.sat.below HB5.out) (by rw [List.length_append]; simp; omega)).mono ?_
              rintro e w6 ⟨rfl, n11, hw6⟩
              have HB6 := Lib.hid (show Below w.heap.size w w6 from hw6 ▸ below_drewN HB5.out n11)
              clear hw6
              rw [show ordP (p1 ++ [[120]]) p1 = 1 from by rw [ordP_ordr.anti p1, show ordP p1 (p1 ++ [[120]]) = -1 from lexC_longer ordT_ordr p1 [120]]; rfl]
              go_wp2_with fail
              refine (live_any m _ ((HB6.out.cell (p := ⟨0, 0, none⟩) hN).trans HM.out)).mono ?_
              rintro e w7 ⟨rfl, hb7⟩
              have HB7 := Lib.hid (HB6.out.trans (hb7.mono HB6.out.size))
              clear hb7
              go_wp2_with fail
              go_ret
              exact ⟨rfl, HB7.out⟩
            · go_wp2_with fail
              refine (O23.out _).mono ?_
              rintro e w2 ⟨rfl, n8, rfl⟩
              go_wp2_with (at_builtin; refine wpList_append_own _ rfl (.tmp 60) (.tmp 61) 22 rfl w.heap.size 9 i0 (.string ⟨#[]⟩) 1 16 Try.underlying22 hi hz0 hz1 hz2 rfl (by decide) _ 0 [] rfl ((made_empty (w.drewN _) w.heap.size (Nat.le_refl _)).alloc _) ⟨w.heap.size + 1, 0, none⟩ 1 1 [.string ⟨#[120]⟩] rfl rfl (cell_new_at (by simp)) (by simp [Value.oneCell']) (by unfold maxLen; omega) (by omega) (by simp; omega) ?_; intro v9 w9 hown9 hgrow9 _; obtain ⟨a9, c9, rfl⟩ := row_form hown9; have HS9 := Lib.hid (longer_nil hown9 HP0.out); have HB9 := Lib.hid (below_app (made_empty (w.drewN _) w.heap.size (Nat.le_refl _)) ((below_drewN (Below.refl _ _) _).alloc (Nat.le_refl _) _) hgrow9 (by simp)); clear hown9 hgrow9)
              refine (order_any (L1.out.sat.below HB9.out) HS9.out (by omega)).mono ?_
              rintro e w5 ⟨rfl, n10, hw5⟩
              have HB5 := Lib.hid (show Below w.heap.size w w5 from hw5 ▸ below_drewN HB9.out n10)
              have HS5 := Lib.hid (show SAt w5 (.slice a9 (0 + 1) c9) (p1 ++ [[120]]) from hw5 ▸ HS9.out.drewN n10)
              clear hw5
              rw [show ordP p1 (p1 ++ [[120]]) = -1 from lexC_longer ordT_ordr p1 [120]]
              go_wp2_with fail
              refine (order_any HS5.out (L1.out.sat.below HB5.out) (by rw [List.length_append]; simp; omega)).mono ?_
              rintro e w6 ⟨rfl, n11, hw6⟩
              have HB6 := Lib.hid (show Below w.heap.size w w6 from hw6 ▸ below_drewN HB5.out n11)
              clear hw6
              rw [show ordP (p1 ++ [[120]]) p1 = 1 from by rw [ordP_ordr.anti p1, show ordP p1 (p1 ++ [[120]]) = -1 from lexC_longer ordT_ordr p1 [120]]; rfl]
              go_wp2_with fail
              refine (live_any m _ ((HB6.out.cell (p := ⟨0, 0, none⟩) hN).trans HM.out)).mono ?_
              rintro e w7 ⟨rfl, hb7⟩
              have HB7 := Lib.hid (HB6.out.trans (hb7.mono HB6.out.size))
              clear hb7
              go_wp2_with fail
              go_ret
              exact ⟨rfl, HB7.out⟩
          · go_wp2_with (at_builtin; refine wpList_append_own _ rfl (.tmp 60) (.tmp 61) 22 rfl w.heap.size 9 i0 (.string ⟨#[]⟩) 1 16 Try.underlying22 hi hz0 hz1 hz2 rfl (by decide) _ 0 [] rfl ((made_empty (w.drewN _) w.heap.size (Nat.le_refl _)).alloc _) ⟨w.heap.size + 1, 0, none⟩ 1 1 [.string ⟨#[120]⟩] rfl rfl (cell_new_at (by simp)) (by simp [Value.oneCell']) (by unfold maxLen; omega) (by omega) (by simp; omega) ?_; intro v9 w9 hown9 hgrow9 _; obtain ⟨a9, c9, rfl⟩ := row_form hown9; have HS9 := Lib.hid (longer_nil hown9 HP0.out); have HB9 := Lib.hid (below_app (made_empty (w.drewN _) w.heap.size (Nat.le_refl _)) ((below_drewN (Below.refl _ _) _).alloc (Nat.le_refl _) _) hgrow9 (by simp)); clear hown9 hgrow9)
            refine (order_any (L1.out.sat.below HB9.out) HS9.out (by omega)).mono ?_
            rintro e w5 ⟨rfl, n10, hw5⟩
            have HB5 := Lib.hid (show Below w.heap.size w w5 from hw5 ▸ below_drewN HB9.out n10)
            have HS5 := Lib.hid (show SAt w5 (.slice a9 (0 + 1) c9) (p1 ++ [[120]]) from hw5 ▸ HS9.out.drewN n10)
            clear hw5
            rw [show ordP p1 (p1 ++ [[120]]) = -1 from lexC_longer ordT_ordr p1 [120]]
            go_wp2_with fail
            refine (order_any HS5.out (L1.out.sat.below HB5.out) (by rw [List.length_append]; simp; omega)).mono ?_
            rintro e w6 ⟨rfl, n11, hw6⟩
            have HB6 := Lib.hid (show Below w.heap.size w w6 from hw6 ▸ below_drewN HB5.out n11)
            clear hw6
            rw [show ordP (p1 ++ [[120]]) p1 = 1 from by rw [ordP_ordr.anti p1, show ordP p1 (p1 ++ [[120]]) = -1 from lexC_longer ordT_ordr p1 [120]]; rfl]
            go_wp2_with fail
            refine (live_any m _ ((HB6.out.cell (p := ⟨0, 0, none⟩) hN).trans HM.out)).mono ?_
            rintro e w7 ⟨rfl, hb7⟩
            have HB7 := Lib.hid (HB6.out.trans (hb7.mono HB6.out.size))
            clear hb7
            go_wp2_with fail
            go_ret
            exact ⟨rfl, HB7.out⟩
        · have hl1 : l1 ≤ 300 := by rw [← L1.out.1]; exact HS1.out.1
          have hp1 : p1.length ≤ 300 := HS1.out.1
          by_cases ho : o < 0
          · by_cases ho2 : o2 < 0
            · have ho3 := HNv.out ho ho2
              go_wp2_with fail
              refine (O23.out _).mono ?_
              rintro e w2 ⟨rfl, n8, rfl⟩
              go_wp2_with fail
              refine (O13.out _).mono ?_
              rintro e w2 ⟨rfl, n9, rfl⟩
              go_wp2_with (first | (at_builtin; refine wpList_append_own _ rfl (.tmp 58) (.tmp 59) 22 rfl w.heap.size 9 i0 (.string ⟨#[]⟩) 1 16 Try.underlying22 hi hz0 hz1 hz2 rfl (by decide) _ 0 [] rfl (made_empty (w.drewN _) w.heap.size (Nat.le_refl _)) ad l1 c1 (p1.map str) rfl (by rw [List.length_map, L1.out.1, Nat.mul_one]) (lat_news L1.out ((below_drewN (Below.refl _ _) _).alloc (Nat.le_refl _) _)) HNE.out (by unfold maxLen; omega) (by omega) (by simp) ?_; intro v1 w1 hown hgrow _; simp only [Nat.zero_add, List.nil_append] at hown; obtain ⟨a8, c8, rfl⟩ := row_form hown; have HO1 := Lib.hid hown; have HB1 := Lib.hid (below_first rfl hgrow); clear hown hgrow) | (at_builtin; refine wpList_append_own _ rfl (.tmp 60) (.tmp 61) 22 rfl w.heap.size 9 i0 (.string ⟨#[]⟩) 1 16 Try.underlying22 hi hz0 hz1 hz2 rfl (by decide) _ l1 (p1.map str) rfl (HO1.out.alloc _) ⟨w1.heap.size, 0, none⟩ 1 1 [.string ⟨#[120]⟩] rfl rfl (cell_one_new _ _ _) (by simp [Value.oneCell']) (by unfold maxLen; omega) (by omega) (by have := HB1.out.size; simp; omega) ?_; intro v9 w9 hown9 hgrow9 _; obtain ⟨a9, c9, rfl⟩ := row_form hown9; have HS9 := Lib.hid (longer_sat hown9 L1.out.1); have HB9 := Lib.hid (below_app HO1.out HB1.out hgrow9 HB1.out.size); clear hown9 hgrow9))
              refine (order_any (L1.out.sat.below HB9.out) HS9.out (by omega)).mono ?_
              rintro e w5 ⟨rfl, n10, hw5⟩
              have HB5 := Lib.hid (show Below w.heap.size w w5 from hw5 ▸ below_drewN HB9.out n10)
              have HS5 := Lib.hid (show SAt w5 (.slice a9 (l1 + 1) c9) (p1 ++ [[120]]) from hw5 ▸ HS9.out.drewN n10)
              clear hw5
              rw [show ordP p1 (p1 ++ [[120]]) = -1 from lexC_longer ordT_ordr p1 [120]]
              go_wp2_with fail
              refine (order_any HS5.out (L1.out.sat.below HB5.out) (by rw [List.length_append]; simp; omega)).mono ?_
              rintro e w6 ⟨rfl, n11, hw6⟩
              have HB6 := Lib.hid (show Below w.heap.size w w6 from hw6 ▸ below_drewN HB5.out n11)
              clear hw6
              rw [show ordP (p1 ++ [[120]]) p1 = 1 from by rw [ordP_ordr.anti p1, show ordP p1 (p1 ++ [[120]]) = -1 from lexC_longer ordT_ordr p1 [120]]; rfl]
              go_wp2_with fail
              refine (live_any m _ ((HB6.out.cell (p := ⟨0, 0, none⟩) hN).trans HM.out)).mono ?_
              rintro e w7 ⟨rfl, hb7⟩
              have HB7 := Lib.hid (HB6.out.trans (hb7.mono HB6.out.size))
              clear hb7
              go_wp2_with fail
              go_ret
              exact ⟨rfl, HB7.out⟩
            · go_wp2_with fail
              refine (O23.out _).mono ?_
              rintro e w2 ⟨rfl, n8, rfl⟩
              go_wp2_with (first | (at_builtin; refine wpList_append_own _ rfl (.tmp 58) (.tmp 59) 22 rfl w.heap.size 9 i0 (.string ⟨#[]⟩) 1 16 Try.underlying22 hi hz0 hz1 hz2 rfl (by decide) _ 0 [] rfl (made_empty (w.drewN _) w.heap.size (Nat.le_refl _)) ad l1 c1 (p1.map str) rfl (by rw [List.length_map, L1.out.1, Nat.mul_one]) (lat_news L1.out ((below_drewN (Below.refl _ _) _).alloc (Nat.le_refl _) _)) HNE.out (by unfold maxLen; omega) (by omega) (by simp) ?_; intro v1 w1 hown hgrow _; simp only [Nat.zero_add, List.nil_append] at hown; obtain ⟨a8, c8, rfl⟩ := row_form hown; have HO1 := Lib.hid hown; have HB1 := Lib.hid (below_first rfl hgrow); clear hown hgrow) | (at_builtin; refine wpList_append_own _ rfl (.tmp 60) (.tmp 61) 22 rfl w.heap.size 9 i0 (.string ⟨#[]⟩) 1 16 Try.underlying22 hi hz0 hz1 hz2 rfl (by decide) _ l1 (p1.map str) rfl (HO1.out.alloc _) ⟨w1.heap.size, 0, none⟩ 1 1 [.string ⟨#[120]⟩] rfl rfl (cell_one_new _ _ _) (by simp [Value.oneCell']) (by unfold maxLen; omega) (by omega) (by have := HB1.out.size; simp; omega) ?_; intro v9 w9 hown9 hgrow9 _; obtain ⟨a9, c9, rfl⟩ := row_form hown9; have HS9 := Lib.hid (longer_sat hown9 L1.out.1); have HB9 := Lib.hid (below_app HO1.out HB1.out hgrow9 HB1.out.size); clear hown9 hgrow9))
              refine (order_any (L1.out.sat.below HB9.out) HS9.out (by omega)).mono ?_
              rintro e w5 ⟨rfl, n10, hw5⟩
              have HB5 := Lib.hid (show Below w.heap.size w w5 from hw5 ▸ below_drewN HB9.out n10)
              have HS5 := Lib.hid (show SAt w5 (.slice a9 (l1 + 1) c9) (p1 ++ [[120]]) from hw5 ▸ HS9.out.drewN n10)
              clear hw5
              rw [show ordP p1 (p1 ++ [[120]]) = -1 from lexC_longer ordT_ordr p1 [120]]
              go_wp2_with fail
              refine (order_any HS5.out (L1.out.sat.below HB5.out) (by rw [List.length_append]; simp; omega)).mono ?_
              rintro e w6 ⟨rfl, n11, hw6⟩
              have HB6 := Lib.hid (show Below w.heap.size w w6 from hw6 ▸ below_drewN HB5.out n11)
              clear hw6
              rw [show ordP (p1 ++ [[120]]) p1 = 1 from by rw [ordP_ordr.anti p1, show ordP p1 (p1 ++ [[120]]) = -1 from lexC_longer ordT_ordr p1 [120]]; rfl]
              go_wp2_with fail
              refine (live_any m _ ((HB6.out.cell (p := ⟨0, 0, none⟩) hN).trans HM.out)).mono ?_
              rintro e w7 ⟨rfl, hb7⟩
              have HB7 := Lib.hid (HB6.out.trans (hb7.mono HB6.out.size))
              clear hb7
              go_wp2_with fail
              go_ret
              exact ⟨rfl, HB7.out⟩
          · go_wp2_with (first | (at_builtin; refine wpList_append_own _ rfl (.tmp 58) (.tmp 59) 22 rfl w.heap.size 9 i0 (.string ⟨#[]⟩) 1 16 Try.underlying22 hi hz0 hz1 hz2 rfl (by decide) _ 0 [] rfl (made_empty (w.drewN _) w.heap.size (Nat.le_refl _)) ad l1 c1 (p1.map str) rfl (by rw [List.length_map, L1.out.1, Nat.mul_one]) (lat_news L1.out ((below_drewN (Below.refl _ _) _).alloc (Nat.le_refl _) _)) HNE.out (by unfold maxLen; omega) (by omega) (by simp) ?_; intro v1 w1 hown hgrow _; simp only [Nat.zero_add, List.nil_append] at hown; obtain ⟨a8, c8, rfl⟩ := row_form hown; have HO1 := Lib.hid hown; have HB1 := Lib.hid (below_first rfl hgrow); clear hown hgrow) | (at_builtin; refine wpList_append_own _ rfl (.tmp 60) (.tmp 61) 22 rfl w.heap.size 9 i0 (.string ⟨#[]⟩) 1 16 Try.underlying22 hi hz0 hz1 hz2 rfl (by decide) _ l1 (p1.map str) rfl (HO1.out.alloc _) ⟨w1.heap.size, 0, none⟩ 1 1 [.string ⟨#[120]⟩] rfl rfl (cell_one_new _ _ _) (by simp [Value.oneCell']) (by unfold maxLen; omega) (by omega) (by have := HB1.out.size; simp; omega) ?_; intro v9 w9 hown9 hgrow9 _; obtain ⟨a9, c9, rfl⟩ := row_form hown9; have HS9 := Lib.hid (longer_sat hown9 L1.out.1); have HB9 := Lib.hid (below_app HO1.out HB1.out hgrow9 HB1.out.size); clear hown9 hgrow9))
            refine (order_any (L1.out.sat.below HB9.out) HS9.out (by omega)).mono ?_
            rintro e w5 ⟨rfl, n10, hw5⟩
            have HB5 := Lib.hid (show Below w.heap.size w w5 from hw5 ▸ below_drewN HB9.out n10)
            have HS5 := Lib.hid (show SAt w5 (.slice a9 (l1 + 1) c9) (p1 ++ [[120]]) from hw5 ▸ HS9.out.drewN n10)
            clear hw5
            rw [show ordP p1 (p1 ++ [[120]]) = -1 from lexC_longer ordT_ordr p1 [120]]
            go_wp2_with fail
            refine (order_any HS5.out (L1.out.sat.below HB5.out) (by rw [List.length_append]; simp; omega)).mono ?_
            rintro e w6 ⟨rfl, n11, hw6⟩
            have HB6 := Lib.hid (show Below w.heap.size w w6 from hw6 ▸ below_drewN HB5.out n11)
            clear hw6
            rw [show ordP (p1 ++ [[120]]) p1 = 1 from by rw [ordP_ordr.anti p1, show ordP p1 (p1 ++ [[120]]) = -1 from lexC_longer ordT_ordr p1 [120]]; rfl]
            go_wp2_with fail
            refine (live_any m _ ((HB6.out.cell (p := ⟨0, 0, none⟩) hN).trans HM.out)).mono ?_
            rintro e w7 ⟨rfl, hb7⟩
            have HB7 := Lib.hid (HB6.out.trans (hb7.mono HB6.out.size))
            clear hb7
            go_wp2_with fail
            go_ret
            exact ⟨rfl, HB7.out⟩
      · rw [hm1] at M1
        rw [hm2] at M2
        rw [hm3] at M3
        clear hm1 hm2 hm3 L1 L2 L3
        go_enter Try.func3, Try.ntmps3
        go_wp2_with fail
        refine (M1.out 0).mono ?_
        rintro e w2 ⟨rfl, n1, rfl⟩
        go_wp2_with fail
        refine (M2.out _).mono ?_
        rintro e w2 ⟨rfl, n2, rfl⟩
        go_wp2_with fail
        refine (M3.out _).mono ?_
        rintro e w2 ⟨rfl, n3, rfl⟩
        go_wp2_with fail
        refine (HLive.out _).mono ?_
        rintro e w2 ⟨rfl, hb⟩
        have HB := Lib.hid hb
        clear hb
        go_wp2_with fail
        go_ret
        exact ⟨rfl, HB.out⟩
    · rw [hm1] at M1
      rw [hm2] at M2
      clear hm1 hm2 L1 L2 L3 M3
      go_enter Try.func3, Try.ntmps3
      go_wp2_with fail
      refine (M1.out 0).mono ?_
      rintro e w2 ⟨rfl, n1, rfl⟩
      go_wp2_with fail
      refine (M2.out _).mono ?_
      rintro e w2 ⟨rfl, n2, rfl⟩
      go_wp2_with fail
      refine (HLive.out _).mono ?_
      rintro e w2 ⟨rfl, hb⟩
      have HB := Lib.hid hb
      clear hb
      go_wp2_with fail
      go_ret
      exact ⟨rfl, HB.out⟩
  · rw [hm1] at M1
    clear hm1 L1 L2 L3 M2 M3
    go_enter Try.func3, Try.ntmps3
    go_wp2_with fail
    refine (M1.out 0).mono ?_
    rintro e w2 ⟨rfl, n1, rfl⟩
    go_wp2_with fail
    refine (HLive.out _).mono ?_
    rintro e w2 ⟨rfl, hb⟩
    have HB := Lib.hid hb
    clear hb
    go_wp2_with fail
    go_ret
    exact ⟨rfl, HB.out⟩
end Go.Proofs.Ytlljmbaaabeioaa
