/- NameJoins: the walk. -/
import Derived.Test.YtlljmbaaabeioaaW
namespace Go.Proofs.Ytlljmbaaabeioaa
open Go.RowKit

theorem good_of {p : List UInt8} (h : badB p = false) : Good p ∧ p.length ≤ 255 ∧ p.contains 0 = false := by
  unfold badB at h
  by_cases h2 : p = [46, 46]
  · subst h2; exact ⟨⟨by simp, by decide, by decide⟩, by simp, by decide⟩
  · have e : (p == [46, 46]) = false := beq_eq_false_iff_ne.2 h2
    rw [e] at h
    have hv : validB p = true := by simpa using h
    unfold validB at hv
    simp only [Bool.and_eq_true, Bool.not_eq_true', decide_eq_true_eq] at hv
    obtain ⟨⟨⟨⟨⟨h3, h4⟩, h5⟩, _⟩, h6⟩, h7⟩ := hv
    exact ⟨⟨fun e => by subst e; simp at h3, fun e => by subst e; simp at h5, h6⟩, h4, h7⟩

theorem join_back {ps : List (List UInt8)} (h : joinCode ps = 0) : codeOf (joinP ps) = 0 ∧ psOf (joinP ps) = ps := by
  unfold joinCode at h
  by_cases h1 : 128 < ps.length
  · rw [if_pos h1] at h; omega
  · rw [if_neg h1] at h
    cases h2 : ps.any badB
    · rw [h2, if_neg (by simp)] at h
      by_cases h3 : 4096 < (joinP ps).length
      · rw [if_pos h3] at h; omega
      · have hg : ∀ p ∈ ps, Good p ∧ p.length ≤ 255 ∧ p.contains 0 = false := fun p hp => good_of (by
          have := List.any_eq_false.1 h2 p hp; simpa using this)
        have hp := parts_join ps (fun p hp => (hg p hp).1)
        have h0 := join_mem (c := 0) (by decide) ps (fun p hp => (hg p hp).2.2)
        have hany : ps.any (fun s => decide (255 < s.length)) = false := by
          rw [List.any_eq_false]; intro x hx; have := (hg x hx).2.1; simp; omega
        have hc : codeOf (joinP ps) = 0 := by
          unfold codeOf
          rw [if_neg h3, h0, hp, hany, if_neg (by simp), if_neg (by simp), if_neg h1]
        exact ⟨hc, by unfold psOf; rw [hc, if_pos rfl, hp]⟩
    · rw [h2, if_pos rfl] at h; omega

section
variable {H : Type} {enc : TypeId × Value → H} {w : World} {base : Nat} {held : Bool}
theorem list_cap {a : Option Addr} {l c : Nat} {d : DataW H} {q : List MemPlace} (h : DataW.Trod enc Try.prog w base (fun _ => true) held 22 (.slice a l c) d q) : l ≤ c := by
  obtain ⟨fuel, hf⟩ := h
  have hf' : DataW.trod enc Try.prog w base (fun _ => true) held fuel 22 [.slice a l c] = some (d, q) := by simpa [Value.cells] using hf
  rcases ChangeShapes.open_strings Try.underlying22 Try.underlying9 (by kernel_rfl) hf' with ⟨hcs, _⟩ | ⟨x, l', c', ss, hcs, _, hl, _⟩
  · simp at hcs
    obtain ⟨rfl, rfl, rfl⟩ := hcs
    exact Nat.le_refl _
  · simp at hcs
    obtain ⟨rfl, rfl, rfl⟩ := hcs
    exact hl
end

set_option maxRecDepth 100000 in
set_option maxHeartbeats 2000000 in
theorem joins_walk (a : Option Addr) (l c : Nat) (ps : List (List UInt8)) (m : Int) (w : World) (hm : w.cell? ⟨0, 0, none⟩ = some (.int .i64 m)) (h : LAt w a l c ps) (hc : l ≤ c) :
    Calls Try.prog 5 #[.slice a l c] w fun e w' => e = .returned (.bool true) ∧ Below w.heap.size w w' := by
  have HM := Lib.hid hm
  have hN : 0 < w.heap.size := World.block_lt_of_cell? w ⟨0, 0, none⟩ hm
  have HA := Lib.hid h
  have HMu := Lib.hid (much_any h.sat)
  have HLive : Hid (∀ W, Below w.heap.size w W → Calls Try.prog 8 #[] W fun e w' => e = .returned (.bool true) ∧ Below w.heap.size w w') := Lib.hid (fun W hb =>
    (live_any m W ((hb.cell (p := ⟨0, 0, none⟩) hN).trans hm)).mono fun e w' ⟨he, hb'⟩ => ⟨he, hb.trans (hb'.mono hb.size)⟩)
  clear hm h
  cases hmu : muchB ps
  · have hs := much_no hmu
    have HS := Lib.hid hs
    have hl : l ≤ 300 := by rw [← HA.out.1]; exact hs.1
    rw [hmu] at HMu
    clear hmu hs
    have HJ : Hid (∀ n, Calls Try.prog 18 #[.slice a l c] (w.drewN n) fun e w' => e = .returned (.tuple #[str (joinTxt ps), .int .i64 (joinCode ps)]) ∧ Below w.heap.size w w') := Lib.hid (fun n =>
      (njoin_any (w := w.drewN n) (a := a) (l := l) (c := c) (ps := ps) HA.out hc hl HS.out.2).mono fun e w' ⟨he, hb⟩ => ⟨he, (below_drewN (Below.refl w.heap.size w) n).trans hb⟩)
    have HR : Hid (∀ W, Below w.heap.size w W → Calls Try.prog 19 #[.slice a l c] W fun e w' => e = .returned (.tuple #[str (joinTxt ps), .int .i64 (joinCode ps)]) ∧ Below w.heap.size w w') := Lib.hid (fun W hb =>
      (rjoin_any (HA.out.sat.below hb) HS.out.2).mono fun e w' ⟨he, n, hw⟩ => ⟨he, hw ▸ below_drewN hb n⟩)
    by_cases h0 : joinCode ps = 0
    · have HTL : Hid ((joinTxt ps).length ≤ 1000000) := Lib.hid (by
        unfold joinTxt; rw [if_pos h0]
        unfold joinCode at h0
        by_cases h1 : 128 < ps.length
        · rw [if_pos h1] at h0; omega
        · rw [if_neg h1] at h0
          cases h2 : ps.any badB
          · rw [h2, if_neg (by simp)] at h0
            by_cases h3 : 4096 < (joinP ps).length
            · rw [if_pos h3] at h0; omega
            · omega
          · rw [h2, if_pos rfl] at h0; omega)
      have HBk : Hid (codeOf (joinTxt ps) = 0 ∧ psOf (joinTxt ps) = ps) := Lib.hid (by
        have := join_back h0
        unfold joinTxt; rw [if_pos h0]; exact this)
      have HSp : Hid (∀ W, Below w.heap.size w W → Calls Try.prog 12 #[str (joinTxt ps)] W fun e w' => ∃ v, e = .returned (.tuple #[v, .int .i64 0]) ∧ SAt w' v ps ∧ Below w.heap.size w w') := Lib.hid (fun W hb =>
        (split_any (joinTxt ps) m W HTL.out ((hb.cell (p := ⟨0, 0, none⟩) hN).trans HM.out)).mono fun e w' ⟨v, he, hr, hb'⟩ => by
          rw [HBk.out.1] at he
          rw [HBk.out.2] at hr
          exact ⟨v, he, SAt.row hr, hb.trans (hb'.mono hb.size)⟩)
      rw [h0] at HJ HR
      clear h0 HTL HBk
      generalize joinTxt ps = jt at *
      unfold str at HJ HR HSp
      go_enter Try.func5, Try.ntmps5
      go_wp2_with fail
      refine HMu.out.mono ?_
      rintro e w1 ⟨rfl, n1, rfl⟩
      go_wp2_with fail
      refine (HJ.out _).mono ?_
      rintro e w2 ⟨rfl, hb2⟩
      have HB2 := Lib.hid hb2
      clear hb2
      go_wp2_with fail
      refine (HR.out _ HB2.out).mono ?_
      rintro e w3 ⟨rfl, hb3⟩
      have HB3 := Lib.hid hb3
      clear hb3
      go_wp2_with fail
      refine (num_any _ _).mono ?_
      rintro e w4 ⟨rfl, rfl⟩
      go_wp2_with fail
      refine (HSp.out _ HB3.out).mono ?_
      rintro e w4 ⟨v, rfl, hs4, hb4⟩
      have HS4 := Lib.hid hs4
      have HB4 := Lib.hid hb4
      clear hs4 hb4
      obtain ⟨a9, c9, rfl, -⟩ := HS4.out
      go_wp2_with fail
      refine (num_any _ _).mono ?_
      rintro e w5 ⟨rfl, rfl⟩
      go_wp2_with fail
      refine (same_any HS4.out (HA.out.sat.below HB4.out) (by rw [HA.out.1]; omega)).mono ?_
      rintro e w6 ⟨rfl, n6, hw6⟩
      have HB6 := Lib.hid (show Below w.heap.size w w6 from hw6 ▸ below_drewN HB4.out n6)
      clear hw6
      rw [decide_eq_true (rfl : ps = ps)]
      go_wp2_with fail
      refine (HLive.out _ HB6.out).mono ?_
      rintro e w7 ⟨rfl, hb7⟩
      have HB7 := Lib.hid hb7
      clear hb7
      go_wp2_with fail
      go_ret
      exact ⟨rfl, HB7.out⟩
    · have h0b : (joinCode ps == 0) = false := beq_eq_false_iff_ne.2 h0
      clear h0
      generalize joinCode ps = jc at *
      generalize joinTxt ps = jt at *
      unfold str at HJ HR
      go_enter Try.func5, Try.ntmps5
      go_wp2_with fail
      refine HMu.out.mono ?_
      rintro e w1 ⟨rfl, n1, rfl⟩
      go_wp2_with fail
      refine (HJ.out _).mono ?_
      rintro e w2 ⟨rfl, hb2⟩
      have HB2 := Lib.hid hb2
      clear hb2
      go_wp2_with fail
      refine (HR.out _ HB2.out).mono ?_
      rintro e w3 ⟨rfl, hb3⟩
      have HB3 := Lib.hid hb3
      clear hb3
      go_wp2_with fail
      refine (num_any _ _).mono ?_
      rintro e w4 ⟨rfl, rfl⟩
      go_wp2_with fail
      refine (HLive.out _ HB3.out).mono ?_
      rintro e w5 ⟨rfl, hb5⟩
      have HB5 := Lib.hid hb5
      clear hb5
      go_wp2_with fail
      go_ret
      exact ⟨rfl, HB5.out⟩
  · rw [hmu] at HMu
    clear hmu
    go_enter Try.func5, Try.ntmps5
    go_wp2_with fail
    refine HMu.out.mono ?_
    rintro e w1 ⟨rfl, n1, rfl⟩
    go_wp2_with fail
    refine (HLive.out _ (below_drewN (Below.refl _ _) _)).mono ?_
    rintro e w5 ⟨rfl, hb5⟩
    have HB5 := Lib.hid hb5
    clear hb5
    go_wp2_with fail
    go_ret
    exact ⟨rfl, HB5.out⟩
end Go.Proofs.Ytlljmbaaabeioaa
