/- The orders of texts and paths, walked: the program's and the reference's. -/
import Derived.Test.YtlljmbaaabeioaaE
import Derived.Test.YtlljmbaaabeioaaU
import Derived.Laws.Cover1
namespace Go.Proofs.Ytlljmbaaabeioaa
open Go.RowKit

theorem length_any (a b : Int) (w : World) : Calls Try.prog 22 #[.int .i64 a, .int .i64 b] w fun e w' => e = .returned (.int .i64 (ordL a b)) ∧ w = w' := by
  by_cases h1 : a < b
  · have HV : Hid (ordL a b = -1) := Lib.hid (by unfold ordL; rw [if_pos h1])
    go_enter Try.func22, Try.ntmps22
    go_wp2
    go_ret
    exact ⟨by rw [HV.out]; rfl, rfl⟩
  · by_cases h2 : b < a
    · have HV : Hid (ordL a b = 1) := Lib.hid (by unfold ordL; rw [if_neg h1, if_pos h2])
      go_enter Try.func22, Try.ntmps22
      go_wp2
      go_ret
      exact ⟨by rw [HV.out]; rfl, rfl⟩
    · have HV : Hid (ordL a b = 0) := Lib.hid (by unfold ordL; rw [if_neg h1, if_neg h2])
      go_enter Try.func22, Try.ntmps22
      go_wp2
      go_ret
      exact ⟨by rw [HV.out]; rfl, rfl⟩

theorem isNaN_any (p : ByteArray) (w : World) : Calls Try.prog 38 #[.string p] w fun e w' => e = .returned (.bool false) ∧ w = w' := by
  go_enter Try.func38, Try.ntmps38
  go_wp2
  go_ret
  exact ⟨by simp, rfl⟩

theorem cmp_any (p q : List UInt8) (w : World) : Calls Try.prog 29 #[str p, str q] w fun e w' => e = .returned (.int .i64 (ordT p q)) ∧ w = w' := by
  have hl := less_ordT p q
  have hz := ordT_ordr.zero p q
  have hv := ordT_ordr.val p q
  have HL := Lib.hid hl
  unfold str
  by_cases h1 : ordT p q < 0
  · have HV : Hid (ordT p q = -1) := Lib.hid (by rcases hv with h | h | h <;> omega)
    have hb : Op.bytesLess p q = true := by rw [hl]; exact decide_eq_true h1
    clear hl hz hv h1
    generalize ordT p q = o at *
    go_enter Try.func29, Try.ntmps29
    go_wp2_with fail
    refine (isNaN_any _ _).mono ?_
    rintro e w1 ⟨rfl, rfl⟩
    go_wp2_with fail
    refine (isNaN_any _ _).mono ?_
    rintro e w1 ⟨rfl, rfl⟩
    go_wp2_with fail

    all_goals go_ret
    all_goals exact ⟨by rw [HV.out]; rfl, rfl⟩
  · have hb : Op.bytesLess p q = false := by rw [hl]; exact decide_eq_false h1
    by_cases h2 : p = q
    · have HV : Hid (ordT p q = 0) := Lib.hid (hz.2 h2)
      subst h2
      have he : (p == p) = true := by simp
      clear hl hz hv h1
      generalize ordT p p = o at *
      go_enter Try.func29, Try.ntmps29
      go_wp2_with fail
      refine (isNaN_any _ _).mono ?_
      rintro e w1 ⟨rfl, rfl⟩
      go_wp2_with fail
      refine (isNaN_any _ _).mono ?_
      rintro e w1 ⟨rfl, rfl⟩
      go_wp2_with fail
      all_goals go_ret
      all_goals exact ⟨by rw [HV.out]; rfl, rfl⟩
    · have HV : Hid (ordT p q = 1) := Lib.hid (by rcases hv with h | h | h <;> first | omega | exact absurd (hz.1 h) h2)
      have he : (p == q) = false := beq_eq_false_iff_ne.2 h2
      clear hl hz hv h1 h2
      generalize ordT p q = o at *
      go_enter Try.func29, Try.ntmps29
      go_wp2_with fail
      refine (isNaN_any _ _).mono ?_
      rintro e w1 ⟨rfl, rfl⟩
      go_wp2_with fail
      refine (isNaN_any _ _).mono ?_
      rintro e w1 ⟨rfl, rfl⟩
      go_wp2_with fail
      all_goals go_ret
      all_goals exact ⟨by rw [HV.out]; rfl, rfl⟩

theorem cmpB_int (a b : UInt8) : cmpB a b = if (a.toNat : Int) < b.toNat then -1 else if (b.toNat : Int) < a.toNat then 1 else 0 := by
  unfold cmpB; simp only [UInt8.lt_iff_toNat_lt, Int.ofNat_lt]

set_option maxHeartbeats 800000 in
theorem text_any (p q : List UInt8) (hq : q.length ≤ 1000000) (w : World) : Calls Try.prog 21 #[str p, str q] w fun e w' => e = .returned (.int .i64 (ordT p q)) ∧ ∃ n, w' = w.drewN n := by
  unfold str
  obtain ⟨n1, hn1⟩ : ∃ n1, Hid (p.length = n1) := ⟨_, Lib.hid rfl⟩
  obtain ⟨n2, hn2⟩ : ∃ n2, Hid (q.length = n2) := ⟨_, Lib.hid rfl⟩
  go_enter Try.func21, Try.ntmps21
  go_wp2_with fail
  go_loopg [5] p.length (fun g i wr => ∃ k : Nat, k + g = p.length ∧ k ≤ q.length ∧ i = .int .i64 k ∧ Hid (∃ n, wr = w.drewN n) ∧ Hid (ordT p q = ordT (p.drop k) (q.drop k)))
  case atStart => exact ⟨0, by omega, by omega, rfl, Lib.hid ⟨0, rfl⟩, Lib.hid rfl⟩
  case round =>
    obtain ⟨k, hk, hkq, rfl, HD, HT⟩ := hrel
    by_cases h1 : k < p.length
    · by_cases h2 : k < q.length
      · have hx := byte_at h1
        have hy := byte_at h2
        have HA := Lib.hid (lex_at (c := cmpB) p q k h1 h2)
        have d1 : decide (k < p.length) = true := decide_eq_true h1
        have d2 : decide (k < q.length) = true := decide_eq_true h2
        generalize p[k] = x at *
        generalize q[k] = y at *
        by_cases h3 : (x.toNat : Int) < y.toNat
        · have HV : Hid (ordT p q = -1) := Lib.hid (by
            rw [HT.out]; unfold ordT; rw [HA.out, cmpB_int, if_pos h3]; rfl)
          go_wp2_with fail
          go_quiet (fail)
          all_goals (try go_wp2_with fail)
          all_goals (try go_quiet (fail))
          all_goals go_ret
          all_goals exact ⟨by rw [HV.out]; rfl, by obtain ⟨mm, hmm⟩ := HD.out; rw [hmm]; exact ⟨_, by simp; rfl⟩⟩
        · by_cases h4 : (y.toNat : Int) < x.toNat
          · have HV : Hid (ordT p q = 1) := Lib.hid (by
              rw [HT.out]; unfold ordT; rw [HA.out, cmpB_int, if_neg h3, if_pos h4]; rfl)
            go_wp2_with fail
            go_quiet (fail)
            all_goals (try go_wp2_with fail)
            all_goals (try go_quiet (fail))
            all_goals (try go_wp2_with fail)
            all_goals go_ret
            all_goals exact ⟨by rw [HV.out]; rfl, by obtain ⟨mm, hmm⟩ := HD.out; rw [hmm]; exact ⟨_, by simp; rfl⟩⟩
          · have HV : Hid (ordT p q = ordT (p.drop (k + 1)) (q.drop (k + 1))) := Lib.hid (by
              rw [HT.out]; unfold ordT; rw [HA.out, cmpB_int, if_neg h3, if_neg h4]; rfl)
            go_wp2_with fail
            go_quiet (fail)
            all_goals (try go_wp2_with fail)
            all_goals (try go_quiet (fail))
            all_goals (try go_wp2_with fail)
            all_goals go_roundg (p.length - (k + 1))
            case measure => omega
            case rel => exact ⟨k + 1, by omega, by omega, by go_num, Lib.hid (by obtain ⟨mm, hmm⟩ := HD.out; rw [hmm]; exact ⟨_, by simp; rfl⟩), HV⟩
      · have HV : Hid (ordT p q = ordL p.length q.length) := Lib.hid (by
          rw [HT.out]; exact lex_end p q k (by omega) hkq (.inr (by omega)))
        go_wp2_with fail
        refine (length_any _ _ _).mono ?_
        rintro e w1 ⟨rfl, rfl⟩
        go_wp2_with fail
        go_ret
        exact ⟨by rw [HV.out]; rfl, HD.out⟩
    · have HV : Hid (ordT p q = ordL p.length q.length) := Lib.hid (by
        rw [HT.out]; exact lex_end p q k (by omega) hkq (.inl (by omega)))
      go_wp2_with fail
      refine (length_any _ _ _).mono ?_
      rintro e w1 ⟨rfl, rfl⟩
      go_wp2_with fail
      go_ret
      exact ⟨by rw [HV.out]; rfl, HD.out⟩

/-- no text of the list is longer than this -/
def Short (ps : List (List UInt8)) : Prop := ∀ p ∈ ps, p.length ≤ 1000000

set_option maxHeartbeats 1600000 in
theorem rorder_any {w : World} {v1 v2 : Value} {p1 p2 : List (List UInt8)} (h1 : SAt w v1 p1) (h2 : SAt w v2 p2) (hl2 : p2.length ≤ 1000000) (hs : Short p2) :
    Calls Try.prog 10 #[v1, v2] w fun e w' => e = .returned (.int .i64 (ordP p1 p2)) ∧ ∃ n, w' = w.drewN n := by
  obtain ⟨a1, c1, rfl, g1⟩ := h1
  obtain ⟨a2, c2, rfl, g2⟩ := h2
  have HG1 := Lib.hid g1
  have HG2 := Lib.hid g2
  have HS := Lib.hid hs
  clear g1 g2 hs
  obtain ⟨n1, hn1⟩ : ∃ n1, Hid (p1.length = n1) := ⟨_, Lib.hid rfl⟩
  obtain ⟨n2, hn2⟩ : ∃ n2, Hid (p2.length = n2) := ⟨_, Lib.hid rfl⟩
  rw [hn1.out, hn2.out]
  rw [hn2.out] at hl2
  go_enter Try.func10, Try.ntmps10
  go_wp2_with fail
  go_loopg [5] n1 (fun g i wr => ∃ k : Nat, k + g = n1 ∧ k ≤ n2 ∧ i = .int .i64 k ∧ Hid (∃ n, wr = w.drewN n) ∧ Hid (ordP p1 p2 = ordP (p1.drop k) (p2.drop k)))
  case atStart => exact ⟨0, by omega, by omega, rfl, Lib.hid ⟨0, rfl⟩, Lib.hid rfl⟩
  case round =>
    obtain ⟨k, hk, hkq, rfl, HD, HT⟩ := hrel
    by_cases hlt1 : k < n1
    · by_cases hlt2 : k < n2
      · have hk1 : k < p1.length := by rw [hn1.out]; exact hlt1
        have hk2 : k < p2.length := by rw [hn2.out]; exact hlt2
        obtain ⟨b1, o1, rfl, q1⟩ := HG1.out k hk1
        obtain ⟨b2, o2, rfl, q2⟩ := HG2.out k hk2
        have r1 : wr.cell? ⟨b1, o1 + k, none⟩ = some (str p1[k]) := by obtain ⟨n, hn⟩ := HD.out; rw [hn]; exact q1
        have r2 : wr.cell? ⟨b2, o2 + k, none⟩ = some (str p2[k]) := by obtain ⟨n, hn⟩ := HD.out; rw [hn]; exact q2
        have hsk : p2[k].length ≤ 1000000 := HS.out _ (List.getElem_mem hk2)
        have HA := Lib.hid (lex_at (c := ordT) p1 p2 k hk1 hk2)
        clear q1 q2
        generalize p1[k] = x1 at *
        generalize p2[k] = x2 at *
        clear hk1 hk2
        have HC := Lib.hid (fun w => text_any x1 x2 hsk w)
        unfold str at r1 r2 HC
        by_cases hx : ordT x1 x2 = 0
        · have HV : Hid (ordP p1 p2 = ordP (p1.drop (k + 1)) (p2.drop (k + 1))) := Lib.hid (by rw [HT.out]; unfold ordP; rw [HA.out, if_neg (by simp [hx])])
          rw [hx] at HC
          clear hx hsk
          go_wp2_with fail
          go_quiet ((go_at_call 21; exact Calls.quiet_of (HC.out _)))
          all_goals (try go_wp2_with fail)
          all_goals go_roundg (n1 - (k + 1))
          case measure => omega
          case rel => exact ⟨k + 1, by omega, by omega, by go_num, Lib.hid (by obtain ⟨mm, hmm⟩ := HD.out; rw [hmm]; exact ⟨_, by simp; rfl⟩), HV⟩
        · have HV : Hid (ordP p1 p2 = ordT x1 x2) := Lib.hid (by rw [HT.out]; unfold ordP; rw [HA.out, if_pos hx])
          generalize ordT x1 x2 = o at *
          have ho : (o == 0) = false := beq_eq_false_iff_ne.2 hx
          clear hx hsk
          go_wp2_with fail
          go_quiet ((go_at_call 21; exact Calls.quiet_of (HC.out _)))
          all_goals (try go_wp2_with fail)
          all_goals go_ret
          all_goals exact ⟨by rw [HV.out]; rfl, by obtain ⟨mm, hmm⟩ := HD.out; rw [hmm]; exact ⟨_, by simp; rfl⟩⟩
      · have HV : Hid (ordP p1 p2 = ordL n1 n2) := Lib.hid (by
          rw [HT.out, ← hn1.out, ← hn2.out]; exact lex_end p1 p2 k (by rw [hn1.out]; omega) (by rw [hn2.out]; omega) (.inr (by rw [hn2.out]; omega)))
        go_wp2_with fail
        refine (length_any _ _ _).mono ?_
        rintro e w1 ⟨rfl, rfl⟩
        go_wp2_with fail
        go_ret
        exact ⟨by rw [HV.out]; rfl, HD.out⟩
    · have HV : Hid (ordP p1 p2 = ordL n1 n2) := Lib.hid (by
        rw [HT.out, ← hn1.out, ← hn2.out]; exact lex_end p1 p2 k (by rw [hn1.out]; omega) (by rw [hn2.out]; omega) (.inl (by rw [hn1.out]; omega)))
      go_wp2_with fail
      refine (length_any _ _ _).mono ?_
      rintro e w1 ⟨rfl, rfl⟩
      go_wp2_with fail
      go_ret
      exact ⟨by rw [HV.out]; rfl, HD.out⟩

set_option maxHeartbeats 1600000 in
theorem compare_any {w : World} {v1 v2 : Value} {p1 p2 : List (List UInt8)} (h1 : SAt w v1 p1) (h2 : SAt w v2 p2) (hl1 : p1.length ≤ 1000000) :
    Calls Try.prog 20 #[v1, v2] w fun e w' => e = .returned (.int .i64 (ordP p1 p2)) ∧ ∃ n, w' = w.drewN n := by
  obtain ⟨a1, c1, rfl, g1⟩ := h1
  obtain ⟨a2, c2, rfl, g2⟩ := h2
  have HG1 := Lib.hid g1
  have HG2 := Lib.hid g2
  clear g1 g2
  obtain ⟨n1, hn1⟩ : ∃ n1, Hid (p1.length = n1) := ⟨_, Lib.hid rfl⟩
  obtain ⟨n2, hn2⟩ : ∃ n2, Hid (p2.length = n2) := ⟨_, Lib.hid rfl⟩
  rw [hn1.out, hn2.out]
  rw [hn1.out] at hl1
  go_enter Try.func20, Try.ntmps20
  go_wp2_with fail
  go_loopg [11] n1 (fun g i wr => ∃ k : Nat, k + g = n1 ∧ k ≤ n2 ∧ i = .int .i64 k ∧ Hid (∃ n, wr = w.drewN n) ∧ Hid (ordP p1 p2 = ordP (p1.drop k) (p2.drop k)))
  case atStart => exact ⟨0, by omega, by omega, rfl, Lib.hid ⟨0, rfl⟩, Lib.hid rfl⟩
  case round =>
    obtain ⟨k, hk, hkq, rfl, HD, HT⟩ := hrel
    by_cases hlt1 : k < n1
    · have hk1 : k < p1.length := by rw [hn1.out]; exact hlt1
      obtain ⟨b1, o1, rfl, q1⟩ := HG1.out k hk1
      have r1 : wr.cell? ⟨b1, o1 + k, none⟩ = some (str p1[k]) := by obtain ⟨n, hn⟩ := HD.out; rw [hn]; exact q1
      clear q1
      by_cases hlt2 : k < n2
      · have hk2 : k < p2.length := by rw [hn2.out]; exact hlt2
        obtain ⟨b2, o2, rfl, q2⟩ := HG2.out k hk2
        have r2 : wr.cell? ⟨b2, o2 + k, none⟩ = some (str p2[k]) := by obtain ⟨n, hn⟩ := HD.out; rw [hn]; exact q2
        have HA := Lib.hid (lex_at (c := ordT) p1 p2 k hk1 hk2)
        clear q2
        generalize p1[k] = x1 at *
        generalize p2[k] = x2 at *
        clear hk1 hk2
        have HC := Lib.hid (fun w => cmp_any x1 x2 w)
        unfold str at r1 r2 HC
        by_cases hx : ordT x1 x2 = 0
        · have HV : Hid (ordP p1 p2 = ordP (p1.drop (k + 1)) (p2.drop (k + 1))) := Lib.hid (by rw [HT.out]; unfold ordP; rw [HA.out, if_neg (by simp [hx])])
          rw [hx] at HC
          clear hx
          go_wp2_with fail
          refine (HC.out _).mono ?_
          rintro e w1 ⟨rfl, rfl⟩
          go_wp2_with fail
          all_goals go_roundg (n1 - (k + 1))
          case measure => omega
          case rel => exact ⟨k + 1, by omega, by omega, by go_num, HD, HV⟩
        · have HV : Hid (ordP p1 p2 = ordT x1 x2) := Lib.hid (by rw [HT.out]; unfold ordP; rw [HA.out, if_pos hx])
          generalize ordT x1 x2 = o at *
          have ho : (o == 0) = false := beq_eq_false_iff_ne.2 hx
          clear hx
          go_wp2_with fail
          refine (HC.out _).mono ?_
          rintro e w1 ⟨rfl, rfl⟩
          go_wp2_with fail
          all_goals go_ret
          all_goals exact ⟨by rw [HV.out]; rfl, HD.out⟩
      · have HV : Hid (ordP p1 p2 = 1) := Lib.hid (by
          rw [HT.out]; rw [show ordP (p1.drop k) (p2.drop k) = ordL p1.length p2.length from lex_end p1 p2 k (by omega) (by rw [hn2.out]; omega) (.inr (by rw [hn2.out]; omega))]
          unfold ordL; rw [hn1.out, hn2.out, if_neg (by omega), if_pos (by omega)])
        generalize p1[k] = x1 at *
        clear hk1
        unfold str at r1
        go_wp2_with fail
        go_ret
        exact ⟨by rw [HV.out]; rfl, HD.out⟩
    · have HV : Hid (ordP p1 p2 = ordL n1 n2) := Lib.hid (by
        rw [HT.out, ← hn1.out, ← hn2.out]; exact lex_end p1 p2 k (by rw [hn1.out]; omega) (by rw [hn2.out]; omega) (.inl (by rw [hn1.out]; omega)))
      by_cases hlt : n1 < n2
      · go_wp2_with fail
        go_ret
        exact ⟨by rw [HV.out]; unfold ordL; rw [if_pos (by omega)]; rfl, HD.out⟩
      · go_wp2_with fail
        go_ret
        exact ⟨by rw [HV.out]; unfold ordL; rw [if_neg (by omega), if_neg (by omega)]; rfl, HD.out⟩

theorem order_any {w : World} {v1 v2 : Value} {p1 p2 : List (List UInt8)} (h1 : SAt w v1 p1) (h2 : SAt w v2 p2) (hl1 : p1.length ≤ 1000000) :
    Calls Try.prog 9 #[v1, v2] w fun e w' => e = .returned (.int .i64 (ordP p1 p2)) ∧ ∃ n, w' = w.drewN n := by
  have HC := Lib.hid (compare_any h1 h2 hl1)
  obtain ⟨a1, c1, rfl, g1⟩ := h1
  obtain ⟨a2, c2, rfl, g2⟩ := h2
  clear g1 g2
  generalize p1.length = n1 at *
  generalize p2.length = n2 at *
  go_enter Try.func9, Try.ntmps9
  go_wp2_with fail
  refine HC.out.mono ?_
  rintro e w1 ⟨rfl, hw⟩
  have HW := Lib.hid hw
  clear hw
  go_wp2_with fail
  go_ret
  exact ⟨rfl, HW.out⟩
end Go.Proofs.Ytlljmbaaabeioaa
