/- The page's example, and NameSplits: walks. -/
import Derived.Test.YtlljmbaaabeioaaG
namespace Go.Proofs.Ytlljmbaaabeioaa
open Go.RowKit

theorem absolute_any (p : List UInt8) (w : World) : Calls Try.prog 17 #[str p] w fun e w' => e = .returned (.bool (Lib.hasPrefix p [47])) ∧ w = w' := by
  unfold str
  go_enter Try.func17, Try.ntmps17
  go_wp2_with fail
  refine (Try.strings_HasPrefix _ _ _).mono ?_
  rintro e w1 ⟨rfl, rfl⟩
  go_wp2_with fail
  go_ret
  exact ⟨by simp, rfl⟩

def exP : List UInt8 := [47, 97, 47, 47, 98, 47, 46, 47, 46, 46]
theorem ex_parts : partsOf exP = [[97], [98], [46, 46]] := by
  unfold exP
  rw [parts_skip (by simp) rfl]
  show partsOf [97, 47, 47, 98, 47, 46, 47, 46, 46] = _
  rw [parts_keep (by simp) rfl]
  show [97] :: partsOf [47, 98, 47, 46, 47, 46, 46] = _
  rw [parts_skip (by simp) rfl]
  show [97] :: partsOf [98, 47, 46, 47, 46, 46] = _
  rw [parts_keep (by simp) rfl]
  show [97] :: [98] :: partsOf [46, 47, 46, 46] = _
  rw [parts_skip (by simp) rfl]
  show [97] :: [98] :: partsOf [46, 46] = _
  rw [parts_keep (by simp) rfl]
  show [97] :: [98] :: [46, 46] :: partsOf [] = _
  rw [parts_nil]
theorem ex_code : codeOf [47, 97, 47, 47, 98, 47, 46, 47, 46, 46] = 0 := by
  have h := ex_parts
  unfold exP at h
  unfold codeOf; rw [h]; rfl
theorem ex_ps : psOf [47, 97, 47, 47, 98, 47, 46, 47, 46, 46] = [[97], [98], [46, 46]] := by
  unfold psOf; rw [ex_code, if_pos rfl]; exact ex_parts

/-- a list built of constants -/
theorem SAt.built (w : World) (ps : List (List UInt8)) : SAt (w.alloc (.cells (ps.map str).toArray 9)) (.slice (some ⟨w.heap.size, 0, none⟩) ps.length ps.length) ps := by
  refine ⟨_, _, rfl, fun i hi => ⟨w.heap.size, 0, rfl, ?_⟩⟩
  have h2 := World.alloc_heap_new w (.cells (ps.map str).toArray 9)
  unfold World.cell?
  simp only [h2]
  simp [hi]

theorem SAt.built_at {w : World} {g : Nat} (ps : List (List UInt8)) (hg : g = w.heap.size) : SAt (w.alloc (.cells (ps.map str).toArray 9)) (.slice (some ⟨g, 0, none⟩) ps.length ps.length) ps := by
  subst hg; exact SAt.built w ps

set_option maxRecDepth 100000 in
set_option maxHeartbeats 2000000 in
theorem live_any (m : Int) (w : World) (hm : w.cell? ⟨0, 0, none⟩ = some (.int .i64 m)) : Calls Try.prog 8 #[] w fun e w' => e = .returned (.bool true) ∧ Below w.heap.size w w' := by
  have HM := Lib.hid hm
  have HS := Lib.hid (split_any exP m w (by simp [exP]) hm)
  clear hm
  unfold str exP at HS
  go_enter Try.func8, Try.ntmps8
  go_wp2_with fail
  refine HS.out.mono ?_
  rintro e w1 ⟨v, rfl, hr, hb⟩
  rw [ex_ps] at hr
  rw [ex_code]
  obtain ⟨a9, c9, rfl⟩ := row_form hr
  have HR := Lib.hid (SAt.row (ps := [[97], [98], [46, 46]]) hr)
  have HB := Lib.hid hb
  clear hr hb HS
  go_wp2_with (first
    | (go_at_call 14; refine (num_any _ _).mono ?_; rintro e w3 ⟨rfl, rfl⟩)
    | fail)
  refine (same_any (p1 := [[97], [98], [46, 46]]) (p2 := [[97], [98], [46, 46]]) (HR.out.below ((Below.refl _ _).alloc (Nat.le_refl _) _)) (SAt.built _ [[97], [98], [46, 46]]) (by simp)).mono ?_
  rintro e w2 ⟨rfl, n2, hw2⟩
  have HB2 : Hid (Below w.heap.size w w2) := Lib.hid (by
    rw [hw2]
    exact HB.out.trans (below_drewN ((Below.refl w.heap.size w1).alloc HB.out.size _) n2))
  clear hw2
  have e1 : decide (([[97], [98], [46, 46]] : List (List UInt8)) = [[97], [98], [46, 46]]) = true := by decide
  rw [e1]
  clear e1
  go_wp2_with fail
  have S1 := SAt.built_at (w := w2) (g := w2.heap.size) [[97]] rfl
  have S2 := SAt.built_at (w := w2.alloc (.cells #[.string { data := #[97] }] 9)) (g := w2.heap.size + 1) [[97], [98]] (by simp)
  have S3 := S1.below (w' := (w2.alloc (.cells #[.string { data := #[97] }] 9)).alloc (.cells #[.string { data := #[97] }, .string { data := #[98] }] 9)) ((Below.refl _ _).alloc (Nat.le_refl _) _)
  have HO := Lib.hid (order_any S3 S2 (by simp))
  clear S1 S2 S3
  refine HO.out.mono ?_
  rintro e w3 ⟨rfl, n3, hw3⟩
  have HB3 : Hid (Below w.heap.size w w3) := Lib.hid (by
    rw [hw3]
    exact HB2.out.trans (below_drewN (((Below.refl w.heap.size w2).alloc HB2.out.size _).alloc (by have := HB2.out.size; simp; omega) _) n3))
  clear hw3
  rw [show ordP [[97]] [[97], [98]] = -1 from rfl]
  go_wp2_with fail
  refine (valid_any [97] _).mono ?_
  rintro e w4 ⟨rfl, rfl⟩
  rw [show validB [97] = true from rfl]
  go_wp2_with fail
  refine (valid_any [46, 46] _).mono ?_
  rintro e w4 ⟨rfl, rfl⟩
  rw [show validB [46, 46] = false from rfl]
  go_wp2_with fail
  go_ret
  exact ⟨rfl, HB3.out⟩

theorem prefix_slash (p : List UInt8) : Lib.hasPrefix p [47] = (p.head? == some 47) := by
  cases p with
  | nil => rfl
  | cons a p =>
    by_cases h : a = 47
    · subst h; simp [Lib.hasPrefix, List.isPrefixOf]
    · have h1 : (47 == a) = false := beq_eq_false_iff_ne.2 (fun e => h e.symm)
      simp [Lib.hasPrefix, List.isPrefixOf, h, h1]
theorem SAt.many {w w' : World} {v : Value} {ps : List (List UInt8)} {B : Nat} (h : w.ownsRow B 9 1 v ps.length (ps.map str)) (hb : Below w.heap.size w w') : SAt w' v ps := (SAt.row h).below hb

set_option maxRecDepth 100000 in
set_option maxHeartbeats 2000000 in
theorem splits_walk (p : List UInt8) (m : Int) (w : World) (hm : w.cell? ⟨0, 0, none⟩ = some (.int .i64 m)) (hp : p.length ≤ maxLen) : Calls Try.prog 4 #[str p] w fun e w' => e = .returned (.bool true) ∧ Below w.heap.size w w' := by
  have HM := Lib.hid hm
  have hN : 0 < w.heap.size := World.block_lt_of_cell? w ⟨0, 0, none⟩ hm
  clear hm
  unfold maxLen at hp
  unfold str
  by_cases h1 : 5000 < p.length
  · go_enter Try.func4, Try.ntmps4
    go_wp2_with fail
    refine (live_any m _ HM.out).mono ?_
    rintro e w1 ⟨rfl, hb⟩
    have HB := Lib.hid hb
    clear hb
    go_wp2_with fail
    go_ret
    exact ⟨rfl, HB.out⟩
  · have HS := Lib.hid (split_any p m w (by omega) HM.out)
    have HR := Lib.hid (fun w => rsplit_any p w (by omega))
    have HVl := Lib.hid (valid_any p)
    have HRl := Lib.hid (rvalid_any p (by omega))
    have HAb := Lib.hid (absolute_any p)
    have HPl : Hid ((psOf p).length ≤ 1000000) := Lib.hid (by
      have := parts_len p.length p (Nat.le_refl _)
      unfold psOf; split
      · omega
      · simp)
    rw [prefix_slash] at HAb
    unfold str at HS HR HVl HRl HAb
    go_enter Try.func4, Try.ntmps4
    go_wp2_with fail
    refine HS.out.mono ?_
    rintro e w1 ⟨v1, rfl, hr1, hb1⟩
    have HR1 := Lib.hid hr1
    have HB1 := Lib.hid hb1
    clear hr1 hb1 HS
    go_wp2_with fail
    refine (HR.out _).mono ?_
    rintro e w2 ⟨v2, rfl, hr2, hb2⟩
    have HR2 := Lib.hid (SAt.row hr2)
    have HB2 := Lib.hid (HB1.out.trans (hb2.mono HB1.out.size))
    have HR1' := Lib.hid ((SAt.row HR1.out).below hb2)
    clear hr2 hb2 HR HR1
    obtain ⟨a1, c1, rfl, -⟩ := HR1'.out
    obtain ⟨a2, c2, rfl, -⟩ := HR2.out
    go_wp2_with fail
    refine (same_any HR1'.out HR2.out HPl.out).mono ?_
    rintro e w3 ⟨rfl, n3, hw3⟩
    have HB3 : Hid (Below w.heap.size w w3) := Lib.hid (by rw [hw3]; exact below_drewN HB2.out n3)
    clear hw3
    rw [decide_eq_true (rfl : psOf p = psOf p)]
    have HM3 := Lib.hid ((HB3.out.cell (p := ⟨0, 0, none⟩) hN).trans HM.out)
    clear HR1' HR2 HPl HB1 HB2
    generalize (psOf p).length = np at *
    generalize codeOf p = co at *
    generalize validB p = vb at *
    go_wp2_with fail
    refine (num_any _ _).mono ?_
    rintro e w4 ⟨rfl, rfl⟩
    go_wp2_with fail
    refine (HVl.out _).mono ?_
    rintro e w4 ⟨rfl, rfl⟩
    go_wp2_with fail
    refine (HRl.out _).mono ?_
    rintro e w4 ⟨rfl, rfl⟩
    go_wp2_with fail
    refine (HAb.out _).mono ?_
    rintro e w4 ⟨rfl, rfl⟩
    rcases p with _ | ⟨b, q⟩
    · go_wp2_with fail
      refine (live_any m _ HM3.out).mono ?_
      rintro e w5 ⟨rfl, hb5⟩
      have HB5 := Lib.hid (HB3.out.trans (hb5.mono HB3.out.size))
      clear hb5
      go_wp2_with fail
      go_ret
      exact ⟨rfl, HB5.out⟩
    · have hx : ({ data := (b :: q).toArray } : ByteArray)[0]'(by simp [ByteArray.size]) = b := rfl
      rw [show ((b :: q).head? == some 47) = (b == 47) from by simp]
      by_cases hb : b = 47
      · subst hb
        go_wp2_with fail
        refine (live_any m _ HM3.out).mono ?_
        rintro e w5 ⟨rfl, hb5⟩
        have HB5 := Lib.hid (HB3.out.trans (hb5.mono HB3.out.size))
        clear hb5
        go_wp2_with fail
        go_ret
        exact ⟨rfl, HB5.out⟩
      · have e1 : (b == 47) = false := beq_eq_false_iff_ne.2 hb
        have e2 : ((b.toNat : Int) == 47) = false := beq_eq_false_iff_ne.2 (fun e => hb (UInt8.toNat_inj.1 (Int.ofNat_inj.1 e)))
        rw [e1]
        go_wp2_with fail
        refine (live_any m _ HM3.out).mono ?_
        rintro e w5 ⟨rfl, hb5⟩
        have HB5 := Lib.hid (HB3.out.trans (hb5.mono HB3.out.size))
        clear hb5
        go_wp2_with fail
        go_ret
        exact ⟨rfl, HB5.out⟩
end Go.Proofs.Ytlljmbaaabeioaa
