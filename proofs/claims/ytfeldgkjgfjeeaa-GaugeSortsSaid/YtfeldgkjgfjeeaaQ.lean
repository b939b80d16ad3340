/- Two sorted parts merged in place: the walk. -/
import Derived.Test.YtfeldgkjgfjeeaaP
namespace Go.Proofs.Ytfeldgkjgfjeeaa
open Go.RowKit Go.Sort Fl
attribute [local go_sem] run_store_float

theorem sorted_congr {lt : Nat × Nat → Nat × Nat → Bool} {a b : Nat} {d d' : Array (Nat × Nat)} (hs : SortedIn lt a b d) (h : ∀ i, a ≤ i → i < b → d'[i]! = d[i]!) : SortedIn lt a b d' := fun p q x y z => by
  rw [h p x (by omega), h q (by omega) z]; exact hs p q x y z
theorem rot_parts {d d1 : Array (Nat × Nat)} {a s m e mid b : Nat} {lt : Nat × Nat → Nat × Nat → Bool} (h1 : SortedIn lt a m d) (h2 : SortedIn lt m b d) (has : a ≤ s) (hsm : s ≤ m) (hme : m ≤ e) (heb : e ≤ b) (hmid : s + e = mid + m) (hr : Rot s m e d d1) :
    (SortedIn lt a s d1 ∧ SortedIn lt s mid d1) ∧ SortedIn lt mid e d1 ∧ SortedIn lt e b d1 := by
  have o := hr.1.2.1
  have r := hr.2
  have A1 : ∀ t, t < s → d1[t]! = d[t]! := fun t x => o t (.inl x)
  have B1 : ∀ t, s ≤ t → t < mid → d1[t]! = d[t + (m - s)]! := fun t x y => by rw [r t x (by omega), if_pos (by omega)]
  have A2 : ∀ t, mid ≤ t → t < e → d1[t]! = d[t - (e - m)]! := fun t x y => by rw [r t (by omega) y, if_neg (by omega)]
  have B2 : ∀ t, e ≤ t → d1[t]! = d[t]! := fun t x => o t (.inr x)
  refine ⟨⟨fun p q x y z => ?_, fun p q x y z => ?_⟩, fun p q x y z => ?_, fun p q x y z => ?_⟩
  · rw [A1 p (by omega), A1 q z]; exact h1 p q x y (by omega)
  · rw [B1 p x (by omega), B1 q (by omega) z]; exact h2 _ _ (by omega) (by omega) (by omega)
  · rw [A2 p x (by omega), A2 q (by omega) z]; exact h1 _ _ (by omega) (by omega) (by omega)
  · rw [B2 p x, B2 q (by omega)]; exact h2 p q (by omega) y z

/-- what the search comes to -/
structure Found (d : Array (Nat × Nat)) (a m b mid s e : Nat) : Prop where
  has : a ≤ s
  hsm : s ≤ m
  hme : m ≤ e
  heb : e ≤ b
  hmid : s + e = mid + m
  c1 : a < s → e < b → ltOf cfP d[e]! d[s - 1]! = false
  c2 : m < e → s < m → ltOf cfP d[e - 1]! d[s]! = true

/-- what is asked of a merge of smaller parts -/
def Rec (blk off cap size : Nat) (w0 : World) (n : Nat) : Prop :=
  ∀ (a m b : Nat) (dk : Array (Nat × Nat)) (wk : World), dk.size = size → SWK encP 2 w0 blk off dk wk → b - a < n → a < m → m < b → b ≤ size → SortedIn (ltOf cfP) a m dk → SortedIn (ltOf cfP) m b dk →
    Calls Try.prog 41 #[.slice (some ⟨blk, off, none⟩) size cap, .int .i64 a, .int .i64 m, .int .i64 b, .func (.func 37) #[] #[]] wk (Arr (Merged a b dk) blk off w0)

set_option maxHeartbeats 16000000 in
set_option maxRecDepth 1000000 in
theorem merge_low (blk off cap a m b : Nat) (d0 d : Array (Nat × Nat)) (w0 w : World) (R : RowK encP 2 w0 blk off d0) (hs : d0.size = d.size) (S : SWK encP 2 w0 blk off d w) (ham : a + 1 < m) (hmb : m + 1 < b) (hb : b ≤ d.size) (hsz : d.size ≤ 1000)
    (h1 : SortedIn (ltOf cfP) a m d) (h2 : SortedIn (ltOf cfP) m b d) (mid lo hi p : Nat) (hmid : ((a : Int) + (b : Int)) / 2 = (mid : Int)) (hp : (mid : Int) + (m : Int) - 1 = (p : Int)) (hcase : m ≤ mid ∧ lo = a ∧ hi = m) (IH : Rec blk off cap d.size w0 (b - a)) :
    Calls Try.prog 41 #[.slice (some ⟨blk, off, none⟩) d.size cap, .int .i64 a, .int .i64 m, .int .i64 b, .func (.func 37) #[] #[]] w (Arr (Merged a b d) blk off w0) := by
  have mixed : Try.prog.follows .mixedOrders = true := by kernel_rfl
  have aE := Try.isAgg49
  have zE := Try.sizeOf49
  have hb1 : ((m : Int) - (a : Int) == 1) = false := beq_eq_false_iff_ne.2 (by omega)
  have hb2 : ((b : Int) - (m : Int) == 1) = false := beq_eq_false_iff_ne.2 (by omega)
  have hm2 : a < mid ∧ mid < b := by omega
  obtain ⟨hma, hmb2⟩ := hm2
  have hlo : a ≤ lo := by omega
  have hhi : hi ≤ m := by omega
  have hlh : lo ≤ hi := by omega
  have HP : Hid (∀ c, lo ≤ c → c < hi → c ≤ p ∧ m ≤ p - c ∧ p - c < b) := Lib.hid (fun c x y => by omega)
  have S0 : Aside (SWK encP 2 w0 blk off d w) := S
  have HS1 := Lib.hid h1
  have HSo := Lib.hid h2
  have HIH := Lib.hid IH
  clear S h1 h2 IH
  have hcm := hcase.1
  have hcd : decide (mid < m) = false := decide_eq_false (by omega)
  have HCase := Lib.hid hcase
  go_enter Try.func41, Try.ntmps41
  go_wp2_with fail
  go_loopg [20, 21] (hi - lo) (fun g si sj wr => ∃ (i j : Nat), si = .int .i64 i ∧ sj = .int .i64 j ∧ lo ≤ i ∧ i ≤ j ∧ j ≤ hi ∧ j - i ≤ g ∧ Aside (SWK encP 2 w0 blk off d wr) ∧ Hid ((∀ t, lo ≤ t → t < i → ltOf cfP d[p - t]! d[t]! = false) ∧ ∀ t, j ≤ t → t < hi → ltOf cfP d[p - t]! d[t]! = true))
  case atStart => exact ⟨lo, hi, by rw [hcase.2.1], by rw [hcase.2.2], Nat.le_refl _, by omega, Nat.le_refl _, Nat.le_refl _, S0, Lib.hid ⟨fun t x y => by omega, fun t x y => by omega⟩⟩
  case round =>
    clear S0
    obtain ⟨i, j, rfl, rfl, hmi, hij, hjb, hg, S1, HI⟩ := hrel
    by_cases hlt : i < j
    · obtain ⟨h, hh, hih, hhj⟩ := half i j hlt
      obtain ⟨q, hq, hq2⟩ : ∃ q : Nat, (p : Int) - (h : Int) = (q : Int) ∧ q = p - h := ⟨p - h, by have := HP.out h (by omega) (by omega); omega, rfl⟩
      have hqw : IntKind.i64.wrap (q : Int) = (q : Int) := by rw [IntKind.wrap_i64]; have := HP.out h (by omega) (by omega); omega
      have hqb : q < b := by have := HP.out h (by omega) (by omega); omega
      have HK : Hid ((ltOf cfP d[q]! d[h]! = false → ∀ t, lo ≤ t → t < h + 1 → ltOf cfP d[p - t]! d[t]! = false) ∧ (ltOf cfP d[q]! d[h]! = true → ∀ t, h ≤ t → t < hi → ltOf cfP d[p - t]! d[t]! = true)) := Lib.hid (by
        rw [hq2]; exact seek_both (lt := ltOf cfP) swoP HS1.out HSo.out hlo hhi HP.out (by omega) (by omega))
      have hz : (h : Int) < (d.size : Int) := by omega
      have az : (q : Int) < (d.size : Int) := by omega
      obtain ⟨⟨x1, x2⟩, -, -⟩ := cells_at S1.out R (by omega) q (by omega)
      obtain ⟨⟨y1, y2⟩, -, -⟩ := cells_at S1.out R (by omega) h (by omega)
      have hc := cmp_at d[q]! d[h]! wr
      have HS2 : Hid (∀ n os, SWK encP 2 w0 blk off d (grow (wr.drewN n) os)) := Lib.hid (fun n os => S1.out.grown n os)
      have HLv : Hid (cfP d[q]! d[h]! < 0 ↔ ltOf cfP d[q]! d[h]! = true) := Lib.hid (by unfold ltOf; rw [decide_eq_true_iff])
      clear S1 hq2
      by_cases hlv : cfP d[q]! d[h]! < 0
      · have HN := Lib.hid (HK.out.2 (HLv.out.1 hlv))
        clear HK HLv
        generalize cfP d[q]! d[h]! = cv at hc hlv
        have hd : decide (cv < 0) = true := decide_eq_true hlv
        generalize d[q]!.1 = p1 at x1 hc
        generalize d[q]!.2 = p2 at x2 hc
        generalize d[h]!.1 = q1 at y1 hc
        generalize d[h]!.2 = q2 at y2 hc
        go_wp2_with fail
        go_quiet_grown (first | (go_at_call 37; refine Calls.grown_of (hc _ _)))
        have S3 : Aside _ := HS2.out nq osq
        clear x1 x2 y1 y2 HS2 hc
        generalize grow (wr.drewN nq) osq = w2 at *
        go_wp2_with fail
        go_roundg (h - i)
        case measure => omega
        case rel => exact ⟨i, h, rfl, rfl, hmi, hih, by omega, Nat.le_refl _, S3, Lib.hid ⟨HI.out.1, HN.out⟩⟩
      · have HN := Lib.hid (HK.out.1 (by unfold ltOf; exact decide_eq_false hlv))
        clear HK HLv
        generalize cfP d[q]! d[h]! = cv at hc hlv
        have hd : decide (cv < 0) = false := decide_eq_false hlv
        generalize d[q]!.1 = p1 at x1 hc
        generalize d[q]!.2 = p2 at x2 hc
        generalize d[h]!.1 = q1 at y1 hc
        generalize d[h]!.2 = q2 at y2 hc
        go_wp2_with fail
        go_quiet_grown (first | (go_at_call 37; refine Calls.grown_of (hc _ _)))
        have S3 : Aside _ := HS2.out nq osq
        clear x1 x2 y1 y2 HS2 hc
        generalize grow (wr.drewN nq) osq = w2 at *
        go_wp2_with fail
        go_roundg (j - (h + 1))
        case measure => omega
        case rel => exact ⟨h + 1, j, by go_num, rfl, by omega, by omega, hjb, Nat.le_refl _, S3, Lib.hid ⟨HN.out, HI.out.2⟩⟩
    · obtain rfl : i = j := by omega
      obtain ⟨e, he, he2⟩ : ∃ e : Nat, (mid : Int) + (m : Int) - (i : Int) = (e : Int) ∧ i + e = mid + m := ⟨mid + m - i, by omega, by omega⟩
      have HF : Hid (Found d a m b mid i e) := Lib.hid (by
        refine ⟨by omega, by omega, by omega, by omega, he2, fun x y => ?_, fun x y => ?_⟩
        · have hx : lo < i := by omega
          have k := HI.out.1 (i - 1) (by omega) (by omega)
          rwa [show p - (i - 1) = e by omega] at k
        · have hx : i < hi := by omega
          have k := HI.out.2 i (Nat.le_refl _) hx
          rwa [show p - i = e - 1 by omega] at k)
      obtain ⟨f1, f2, f3, f4⟩ : a ≤ i ∧ i ≤ m ∧ m ≤ e ∧ e ≤ b := ⟨HF.out.has, HF.out.hsm, HF.out.hme, HF.out.heb⟩
      clear HI HP hg
      by_cases g1 : i < m ∧ m < e
      · obtain ⟨g1a, g1b⟩ := g1
        have HCr := Lib.hid (rotate_any blk off cap i m e d0 d w0 wr R (by omega) S1.out g1a g1b (by omega) hsz)
        clear S1
        go_wp2_with fail
        refine HCr.out.mono ?_
        rintro ee w2 ⟨rfl, d1, hr1, hs1⟩
        have S2 : Aside _ := hs1
        have HRt := Lib.hid hr1
        clear hs1 hr1 HCr
        have HSz1 : Hid (d1.size = d.size) := Lib.hid HRt.out.1.1
        have HPa := Lib.hid (rot_parts HS1.out HSo.out f1 f2 f3 f4 he2 HRt.out)
        by_cases g2 : a < i ∧ i < mid
        · obtain ⟨g2a, g2b⟩ := g2
          have HC2 := Lib.hid (HIH.out a i mid d1 w2 HSz1.out S2.out (by omega) g2a g2b (by omega) HPa.out.1.1 HPa.out.1.2)
          clear S2
          go_wp2_with fail
          refine HC2.out.mono ?_
          rintro ee w3 ⟨rfl, d2, hm2, hs2⟩
          have S3 : Aside _ := hs2
          have HM2 := Lib.hid hm2
          have HN2 : Hid (¬ (a < i ∧ i < mid) → d2 = d1) := Lib.hid (fun h => absurd ⟨g2a, g2b⟩ h)
          have HM2' : Hid (a < i → i < mid → SortedIn (ltOf cfP) a i d1 → SortedIn (ltOf cfP) i mid d1 → PermIn a mid d1 d2 ∧ SortedIn (ltOf cfP) a mid d2) := Lib.hid (fun _ _ _ _ => HM2.out)
          have HP2 : Hid (SortedIn (ltOf cfP) mid e d2 ∧ SortedIn (ltOf cfP) e b d2) := Lib.hid ⟨sorted_congr HPa.out.2.1 (fun t x _ => HM2.out.1.2.1 t (.inr x)), sorted_congr HPa.out.2.2 (fun t x _ => HM2.out.1.2.1 t (.inr (by omega)))⟩
          have HSz2 : Hid (d2.size = d.size) := Lib.hid (HM2.out.1.1.trans HSz1.out)
          clear hs2 hm2 HC2
          by_cases g3 : mid < e ∧ e < b
          · obtain ⟨g3a, g3b⟩ := g3
            have HC3 := Lib.hid (HIH.out mid e b d2 w3 HSz2.out S3.out (by omega) g3a g3b hb HP2.out.1 HP2.out.2)
            clear S3
            go_wp2_with fail
            all_goals refine HC3.out.mono ?_
            all_goals rintro ee w4 ⟨rfl, d3, hm3, hs3⟩
            all_goals have S4 : Aside _ := hs3
            all_goals have HM3 := Lib.hid hm3
            all_goals clear hs3 hm3 HC3
            all_goals go_wp2_with fail
            all_goals go_end0
            all_goals exact ⟨rfl, d3, merge_halves swoP HS1.out HSo.out hb f1 f2 f3 f4 he2 HF.out.c1 HF.out.c2 HRt.out HM2'.out HN2.out (fun _ _ _ _ => HM3.out) (fun h => absurd ⟨g3a, g3b⟩ h), S4.out⟩
          · have g3d : (decide ((mid : Int) < e) && decide ((e : Int) < b)) = false := by
              by_cases x : mid < e
              · rw [decide_eq_false (show ¬ (e : Int) < b by omega), Bool.and_false]
              · rw [decide_eq_false (show ¬ (mid : Int) < e by omega), Bool.false_and]
            by_cases g3x : mid < e
            · have g3y : b ≤ e := by omega
              go_wp2_with fail
              all_goals go_end0
              all_goals exact ⟨rfl, d2, merge_halves swoP HS1.out HSo.out hb f1 f2 f3 f4 he2 HF.out.c1 HF.out.c2 HRt.out HM2'.out HN2.out (fun x y => absurd ⟨x, y⟩ g3) (fun _ => rfl), S3.out⟩
            · go_wp2_with fail
              all_goals go_end0
              all_goals exact ⟨rfl, d2, merge_halves swoP HS1.out HSo.out hb f1 f2 f3 f4 he2 HF.out.c1 HF.out.c2 HRt.out HM2'.out HN2.out (fun x y => absurd ⟨x, y⟩ g3) (fun _ => rfl), S3.out⟩
        · obtain ⟨d2, hd2⟩ : ∃ d2, d2 = d1 := ⟨d1, rfl⟩
          have S3 : Aside (SWK encP 2 w0 blk off d2 w2) := by rw [hd2]; exact S2.out
          have HN2 : Hid (¬ (a < i ∧ i < mid) → d2 = d1) := Lib.hid (fun _ => hd2)
          have HM2' : Hid (a < i → i < mid → SortedIn (ltOf cfP) a i d1 → SortedIn (ltOf cfP) i mid d1 → PermIn a mid d1 d2 ∧ SortedIn (ltOf cfP) a mid d2) := Lib.hid (fun x y => absurd ⟨x, y⟩ g2)
          have HP2 : Hid (SortedIn (ltOf cfP) mid e d2 ∧ SortedIn (ltOf cfP) e b d2) := Lib.hid (by rw [hd2]; exact HPa.out.2)
          have HSz2 : Hid (d2.size = d.size) := Lib.hid (by rw [hd2]; exact HSz1.out)
          have g2d : (decide ((a : Int) < i) && decide ((i : Int) < mid)) = false := by
            by_cases x : a < i
            · rw [decide_eq_false (show ¬ (i : Int) < mid by omega), Bool.and_false]
            · rw [decide_eq_false (show ¬ (a : Int) < i by omega), Bool.false_and]
          clear S2 hd2
          by_cases g3 : mid < e ∧ e < b
          · obtain ⟨g3a, g3b⟩ := g3
            have HC3 := Lib.hid (HIH.out mid e b d2 w2 HSz2.out S3.out (by omega) g3a g3b hb HP2.out.1 HP2.out.2)
            clear S3
            go_wp2_with fail
            all_goals refine HC3.out.mono ?_
            all_goals rintro ee w4 ⟨rfl, d3, hm3, hs3⟩
            all_goals have S4 : Aside _ := hs3
            all_goals have HM3 := Lib.hid hm3
            all_goals clear hs3 hm3 HC3
            all_goals go_wp2_with fail
            all_goals go_end0
            all_goals exact ⟨rfl, d3, merge_halves swoP HS1.out HSo.out hb f1 f2 f3 f4 he2 HF.out.c1 HF.out.c2 HRt.out HM2'.out HN2.out (fun _ _ _ _ => HM3.out) (fun h => absurd ⟨g3a, g3b⟩ h), S4.out⟩
          · have g3d : (decide ((mid : Int) < e) && decide ((e : Int) < b)) = false := by
              by_cases x : mid < e
              · rw [decide_eq_false (show ¬ (e : Int) < b by omega), Bool.and_false]
              · rw [decide_eq_false (show ¬ (mid : Int) < e by omega), Bool.false_and]
            by_cases g3x : mid < e
            · have g3y : b ≤ e := by omega
              go_wp2_with fail
              all_goals go_end0
              all_goals exact ⟨rfl, d2, merge_halves swoP HS1.out HSo.out hb f1 f2 f3 f4 he2 HF.out.c1 HF.out.c2 HRt.out HM2'.out HN2.out (fun x y => absurd ⟨x, y⟩ g3) (fun _ => rfl), S3.out⟩
            · go_wp2_with fail
              all_goals go_end0
              all_goals exact ⟨rfl, d2, merge_halves swoP HS1.out HSo.out hb f1 f2 f3 f4 he2 HF.out.c1 HF.out.c2 HRt.out HM2'.out HN2.out (fun x y => absurd ⟨x, y⟩ g3) (fun _ => rfl), S3.out⟩
      · have HRt : Hid (Rot i m e d d) := Lib.hid (rot_none (by omega))
        obtain ⟨d1, hd1⟩ : ∃ d1, d1 = d := ⟨d, rfl⟩
        have S2 : Aside (SWK encP 2 w0 blk off d1 wr) := by rw [hd1]; exact S1.out
        have HRt : Hid (Rot i m e d d1) := Lib.hid (by rw [hd1]; exact HRt.out)
        have g1d : (decide ((i : Int) < m) && decide ((m : Int) < e)) = false := by
          by_cases x : i < m
          · rw [decide_eq_false (show ¬ (m : Int) < e by omega), Bool.and_false]
          · rw [decide_eq_false (show ¬ (i : Int) < m by omega), Bool.false_and]
        clear S1 hd1
        have HSz1 : Hid (d1.size = d.size) := Lib.hid HRt.out.1.1
        have HPa := Lib.hid (rot_parts HS1.out HSo.out f1 f2 f3 f4 he2 HRt.out)
        by_cases g2 : a < i ∧ i < mid
        · obtain ⟨g2a, g2b⟩ := g2
          have HC2 := Lib.hid (HIH.out a i mid d1 wr HSz1.out S2.out (by omega) g2a g2b (by omega) HPa.out.1.1 HPa.out.1.2)
          clear S2
          go_wp2_with fail
          refine HC2.out.mono ?_
          rintro ee w3 ⟨rfl, d2, hm2, hs2⟩
          have S3 : Aside _ := hs2
          have HM2 := Lib.hid hm2
          have HN2 : Hid (¬ (a < i ∧ i < mid) → d2 = d1) := Lib.hid (fun h => absurd ⟨g2a, g2b⟩ h)
          have HM2' : Hid (a < i → i < mid → SortedIn (ltOf cfP) a i d1 → SortedIn (ltOf cfP) i mid d1 → PermIn a mid d1 d2 ∧ SortedIn (ltOf cfP) a mid d2) := Lib.hid (fun _ _ _ _ => HM2.out)
          have HP2 : Hid (SortedIn (ltOf cfP) mid e d2 ∧ SortedIn (ltOf cfP) e b d2) := Lib.hid ⟨sorted_congr HPa.out.2.1 (fun t x _ => HM2.out.1.2.1 t (.inr x)), sorted_congr HPa.out.2.2 (fun t x _ => HM2.out.1.2.1 t (.inr (by omega)))⟩
          have HSz2 : Hid (d2.size = d.size) := Lib.hid (HM2.out.1.1.trans HSz1.out)
          clear hs2 hm2 HC2
          by_cases g3 : mid < e ∧ e < b
          · obtain ⟨g3a, g3b⟩ := g3
            have HC3 := Lib.hid (HIH.out mid e b d2 w3 HSz2.out S3.out (by omega) g3a g3b hb HP2.out.1 HP2.out.2)
            clear S3
            go_wp2_with fail
            all_goals refine HC3.out.mono ?_
            all_goals rintro ee w4 ⟨rfl, d3, hm3, hs3⟩
            all_goals have S4 : Aside _ := hs3
            all_goals have HM3 := Lib.hid hm3
            all_goals clear hs3 hm3 HC3
            all_goals go_wp2_with fail
            all_goals go_end0
            all_goals exact ⟨rfl, d3, merge_halves swoP HS1.out HSo.out hb f1 f2 f3 f4 he2 HF.out.c1 HF.out.c2 HRt.out HM2'.out HN2.out (fun _ _ _ _ => HM3.out) (fun h => absurd ⟨g3a, g3b⟩ h), S4.out⟩
          · have g3d : (decide ((mid : Int) < e) && decide ((e : Int) < b)) = false := by
              by_cases x : mid < e
              · rw [decide_eq_false (show ¬ (e : Int) < b by omega), Bool.and_false]
              · rw [decide_eq_false (show ¬ (mid : Int) < e by omega), Bool.false_and]
            by_cases g3x : mid < e
            · have g3y : b ≤ e := by omega
              go_wp2_with fail
              all_goals go_end0
              all_goals exact ⟨rfl, d2, merge_halves swoP HS1.out HSo.out hb f1 f2 f3 f4 he2 HF.out.c1 HF.out.c2 HRt.out HM2'.out HN2.out (fun x y => absurd ⟨x, y⟩ g3) (fun _ => rfl), S3.out⟩
            · go_wp2_with fail
              all_goals go_end0
              all_goals exact ⟨rfl, d2, merge_halves swoP HS1.out HSo.out hb f1 f2 f3 f4 he2 HF.out.c1 HF.out.c2 HRt.out HM2'.out HN2.out (fun x y => absurd ⟨x, y⟩ g3) (fun _ => rfl), S3.out⟩
        · obtain ⟨d2, hd2⟩ : ∃ d2, d2 = d1 := ⟨d1, rfl⟩
          have S3 : Aside (SWK encP 2 w0 blk off d2 wr) := by rw [hd2]; exact S2.out
          have HN2 : Hid (¬ (a < i ∧ i < mid) → d2 = d1) := Lib.hid (fun _ => hd2)
          have HM2' : Hid (a < i → i < mid → SortedIn (ltOf cfP) a i d1 → SortedIn (ltOf cfP) i mid d1 → PermIn a mid d1 d2 ∧ SortedIn (ltOf cfP) a mid d2) := Lib.hid (fun x y => absurd ⟨x, y⟩ g2)
          have HP2 : Hid (SortedIn (ltOf cfP) mid e d2 ∧ SortedIn (ltOf cfP) e b d2) := Lib.hid (by rw [hd2]; exact HPa.out.2)
          have HSz2 : Hid (d2.size = d.size) := Lib.hid (by rw [hd2]; exact HSz1.out)
          have g2d : (decide ((a : Int) < i) && decide ((i : Int) < mid)) = false := by
            by_cases x : a < i
            · rw [decide_eq_false (show ¬ (i : Int) < mid by omega), Bool.and_false]
            · rw [decide_eq_false (show ¬ (a : Int) < i by omega), Bool.false_and]
          clear S2 hd2
          by_cases g3 : mid < e ∧ e < b
          · obtain ⟨g3a, g3b⟩ := g3
            have HC3 := Lib.hid (HIH.out mid e b d2 wr HSz2.out S3.out (by omega) g3a g3b hb HP2.out.1 HP2.out.2)
            clear S3
            go_wp2_with fail
            all_goals refine HC3.out.mono ?_
            all_goals rintro ee w4 ⟨rfl, d3, hm3, hs3⟩
            all_goals have S4 : Aside _ := hs3
            all_goals have HM3 := Lib.hid hm3
            all_goals clear hs3 hm3 HC3
            all_goals go_wp2_with fail
            all_goals go_end0
            all_goals exact ⟨rfl, d3, merge_halves swoP HS1.out HSo.out hb f1 f2 f3 f4 he2 HF.out.c1 HF.out.c2 HRt.out HM2'.out HN2.out (fun _ _ _ _ => HM3.out) (fun h => absurd ⟨g3a, g3b⟩ h), S4.out⟩
          · have g3d : (decide ((mid : Int) < e) && decide ((e : Int) < b)) = false := by
              by_cases x : mid < e
              · rw [decide_eq_false (show ¬ (e : Int) < b by omega), Bool.and_false]
              · rw [decide_eq_false (show ¬ (mid : Int) < e by omega), Bool.false_and]
            by_cases g3x : mid < e
            · have g3y : b ≤ e := by omega
              go_wp2_with fail
              all_goals go_end0
              all_goals exact ⟨rfl, d2, merge_halves swoP HS1.out HSo.out hb f1 f2 f3 f4 he2 HF.out.c1 HF.out.c2 HRt.out HM2'.out HN2.out (fun x y => absurd ⟨x, y⟩ g3) (fun _ => rfl), S3.out⟩
            · go_wp2_with fail
              all_goals go_end0
              all_goals exact ⟨rfl, d2, merge_halves swoP HS1.out HSo.out hb f1 f2 f3 f4 he2 HF.out.c1 HF.out.c2 HRt.out HM2'.out HN2.out (fun x y => absurd ⟨x, y⟩ g3) (fun _ => rfl), S3.out⟩

set_option maxHeartbeats 16000000 in
set_option maxRecDepth 1000000 in
theorem merge_high (blk off cap a m b : Nat) (d0 d : Array (Nat × Nat)) (w0 w : World) (R : RowK encP 2 w0 blk off d0) (hs : d0.size = d.size) (S : SWK encP 2 w0 blk off d w) (ham : a + 1 < m) (hmb : m + 1 < b) (hb : b ≤ d.size) (hsz : d.size ≤ 1000)
    (h1 : SortedIn (ltOf cfP) a m d) (h2 : SortedIn (ltOf cfP) m b d) (mid lo hi p : Nat) (hmid : ((a : Int) + (b : Int)) / 2 = (mid : Int)) (hp : (mid : Int) + (m : Int) - 1 = (p : Int)) (hcase : mid < m ∧ lo + b = mid + m ∧ hi = mid) (IH : Rec blk off cap d.size w0 (b - a)) :
    Calls Try.prog 41 #[.slice (some ⟨blk, off, none⟩) d.size cap, .int .i64 a, .int .i64 m, .int .i64 b, .func (.func 37) #[] #[]] w (Arr (Merged a b d) blk off w0) := by
  have mixed : Try.prog.follows .mixedOrders = true := by kernel_rfl
  have aE := Try.isAgg49
  have zE := Try.sizeOf49
  have hb1 : ((m : Int) - (a : Int) == 1) = false := beq_eq_false_iff_ne.2 (by omega)
  have hb2 : ((b : Int) - (m : Int) == 1) = false := beq_eq_false_iff_ne.2 (by omega)
  have hm2 : a < mid ∧ mid < b := by omega
  obtain ⟨hma, hmb2⟩ := hm2
  have hlo : a ≤ lo := by omega
  have hhi : hi ≤ m := by omega
  have hlh : lo ≤ hi := by omega
  have HP : Hid (∀ c, lo ≤ c → c < hi → c ≤ p ∧ m ≤ p - c ∧ p - c < b) := Lib.hid (fun c x y => by omega)
  have S0 : Aside (SWK encP 2 w0 blk off d w) := S
  have HS1 := Lib.hid h1
  have HSo := Lib.hid h2
  have HIH := Lib.hid IH
  clear S h1 h2 IH
  have hcm := hcase.1
  have hcd : decide (mid < m) = true := decide_eq_true (by omega)
  have HCase := Lib.hid hcase
  go_enter Try.func41, Try.ntmps41
  go_wp2_with fail
  go_loopg [20, 21] (hi - lo) (fun g si sj wr => ∃ (i j : Nat), si = .int .i64 i ∧ sj = .int .i64 j ∧ lo ≤ i ∧ i ≤ j ∧ j ≤ hi ∧ j - i ≤ g ∧ Aside (SWK encP 2 w0 blk off d wr) ∧ Hid ((∀ t, lo ≤ t → t < i → ltOf cfP d[p - t]! d[t]! = false) ∧ ∀ t, j ≤ t → t < hi → ltOf cfP d[p - t]! d[t]! = true))
  case atStart => exact ⟨lo, hi, by congr 1; omega, by rw [hcase.2.2], Nat.le_refl _, by omega, Nat.le_refl _, Nat.le_refl _, S0, Lib.hid ⟨fun t x y => by omega, fun t x y => by omega⟩⟩
  case round =>
    clear S0
    obtain ⟨i, j, rfl, rfl, hmi, hij, hjb, hg, S1, HI⟩ := hrel
    by_cases hlt : i < j
    · obtain ⟨h, hh, hih, hhj⟩ := half i j hlt
      obtain ⟨q, hq, hq2⟩ : ∃ q : Nat, (p : Int) - (h : Int) = (q : Int) ∧ q = p - h := ⟨p - h, by have := HP.out h (by omega) (by omega); omega, rfl⟩
      have hqw : IntKind.i64.wrap (q : Int) = (q : Int) := by rw [IntKind.wrap_i64]; have := HP.out h (by omega) (by omega); omega
      have hqb : q < b := by have := HP.out h (by omega) (by omega); omega
      have HK : Hid ((ltOf cfP d[q]! d[h]! = false → ∀ t, lo ≤ t → t < h + 1 → ltOf cfP d[p - t]! d[t]! = false) ∧ (ltOf cfP d[q]! d[h]! = true → ∀ t, h ≤ t → t < hi → ltOf cfP d[p - t]! d[t]! = true)) := Lib.hid (by
        rw [hq2]; exact seek_both (lt := ltOf cfP) swoP HS1.out HSo.out hlo hhi HP.out (by omega) (by omega))
      have hz : (h : Int) < (d.size : Int) := by omega
      have az : (q : Int) < (d.size : Int) := by omega
      obtain ⟨⟨x1, x2⟩, -, -⟩ := cells_at S1.out R (by omega) q (by omega)
      obtain ⟨⟨y1, y2⟩, -, -⟩ := cells_at S1.out R (by omega) h (by omega)
      have hc := cmp_at d[q]! d[h]! wr
      have HS2 : Hid (∀ n os, SWK encP 2 w0 blk off d (grow (wr.drewN n) os)) := Lib.hid (fun n os => S1.out.grown n os)
      have HLv : Hid (cfP d[q]! d[h]! < 0 ↔ ltOf cfP d[q]! d[h]! = true) := Lib.hid (by unfold ltOf; rw [decide_eq_true_iff])
      clear S1 hq2
      by_cases hlv : cfP d[q]! d[h]! < 0
      · have HN := Lib.hid (HK.out.2 (HLv.out.1 hlv))
        clear HK HLv
        generalize cfP d[q]! d[h]! = cv at hc hlv
        have hd : decide (cv < 0) = true := decide_eq_true hlv
        generalize d[q]!.1 = p1 at x1 hc
        generalize d[q]!.2 = p2 at x2 hc
        generalize d[h]!.1 = q1 at y1 hc
        generalize d[h]!.2 = q2 at y2 hc
        go_wp2_with fail
        go_quiet_grown (first | (go_at_call 37; refine Calls.grown_of (hc _ _)))
        have S3 : Aside _ := HS2.out nq osq
        clear x1 x2 y1 y2 HS2 hc
        generalize grow (wr.drewN nq) osq = w2 at *
        go_wp2_with fail
        go_roundg (h - i)
        case measure => omega
        case rel => exact ⟨i, h, rfl, rfl, hmi, hih, by omega, Nat.le_refl _, S3, Lib.hid ⟨HI.out.1, HN.out⟩⟩
      · have HN := Lib.hid (HK.out.1 (by unfold ltOf; exact decide_eq_false hlv))
        clear HK HLv
        generalize cfP d[q]! d[h]! = cv at hc hlv
        have hd : decide (cv < 0) = false := decide_eq_false hlv
        generalize d[q]!.1 = p1 at x1 hc
        generalize d[q]!.2 = p2 at x2 hc
        generalize d[h]!.1 = q1 at y1 hc
        generalize d[h]!.2 = q2 at y2 hc
        go_wp2_with fail
        go_quiet_grown (first | (go_at_call 37; refine Calls.grown_of (hc _ _)))
        have S3 : Aside _ := HS2.out nq osq
        clear x1 x2 y1 y2 HS2 hc
        generalize grow (wr.drewN nq) osq = w2 at *
        go_wp2_with fail
        go_roundg (j - (h + 1))
        case measure => omega
        case rel => exact ⟨h + 1, j, by go_num, rfl, by omega, by omega, hjb, Nat.le_refl _, S3, Lib.hid ⟨HN.out, HI.out.2⟩⟩
    · obtain rfl : i = j := by omega
      obtain ⟨e, he, he2⟩ : ∃ e : Nat, (mid : Int) + (m : Int) - (i : Int) = (e : Int) ∧ i + e = mid + m := ⟨mid + m - i, by omega, by omega⟩
      have HF : Hid (Found d a m b mid i e) := Lib.hid (by
        refine ⟨by omega, by omega, by omega, by omega, he2, fun x y => ?_, fun x y => ?_⟩
        · have hx : lo < i := by omega
          have k := HI.out.1 (i - 1) (by omega) (by omega)
          rwa [show p - (i - 1) = e by omega] at k
        · have hx : i < hi := by omega
          have k := HI.out.2 i (Nat.le_refl _) hx
          rwa [show p - i = e - 1 by omega] at k)
      obtain ⟨f1, f2, f3, f4⟩ : a ≤ i ∧ i ≤ m ∧ m ≤ e ∧ e ≤ b := ⟨HF.out.has, HF.out.hsm, HF.out.hme, HF.out.heb⟩
      clear HI HP hg
      by_cases g1 : i < m ∧ m < e
      · obtain ⟨g1a, g1b⟩ := g1
        have HCr := Lib.hid (rotate_any blk off cap i m e d0 d w0 wr R (by omega) S1.out g1a g1b (by omega) hsz)
        clear S1
        go_wp2_with fail
        refine HCr.out.mono ?_
        rintro ee w2 ⟨rfl, d1, hr1, hs1⟩
        have S2 : Aside _ := hs1
        have HRt := Lib.hid hr1
        clear hs1 hr1 HCr
        have HSz1 : Hid (d1.size = d.size) := Lib.hid HRt.out.1.1
        have HPa := Lib.hid (rot_parts HS1.out HSo.out f1 f2 f3 f4 he2 HRt.out)
        by_cases g2 : a < i ∧ i < mid
        · obtain ⟨g2a, g2b⟩ := g2
          have HC2 := Lib.hid (HIH.out a i mid d1 w2 HSz1.out S2.out (by omega) g2a g2b (by omega) HPa.out.1.1 HPa.out.1.2)
          clear S2
          go_wp2_with fail
          refine HC2.out.mono ?_
          rintro ee w3 ⟨rfl, d2, hm2, hs2⟩
          have S3 : Aside _ := hs2
          have HM2 := Lib.hid hm2
          have HN2 : Hid (¬ (a < i ∧ i < mid) → d2 = d1) := Lib.hid (fun h => absurd ⟨g2a, g2b⟩ h)
          have HM2' : Hid (a < i → i < mid → SortedIn (ltOf cfP) a i d1 → SortedIn (ltOf cfP) i mid d1 → PermIn a mid d1 d2 ∧ SortedIn (ltOf cfP) a mid d2) := Lib.hid (fun _ _ _ _ => HM2.out)
          have HP2 : Hid (SortedIn (ltOf cfP) mid e d2 ∧ SortedIn (ltOf cfP) e b d2) := Lib.hid ⟨sorted_congr HPa.out.2.1 (fun t x _ => HM2.out.1.2.1 t (.inr x)), sorted_congr HPa.out.2.2 (fun t x _ => HM2.out.1.2.1 t (.inr (by omega)))⟩
          have HSz2 : Hid (d2.size = d.size) := Lib.hid (HM2.out.1.1.trans HSz1.out)
          clear hs2 hm2 HC2
          by_cases g3 : mid < e ∧ e < b
          · obtain ⟨g3a, g3b⟩ := g3
            have HC3 := Lib.hid (HIH.out mid e b d2 w3 HSz2.out S3.out (by omega) g3a g3b hb HP2.out.1 HP2.out.2)
            clear S3
            go_wp2_with fail
            all_goals refine HC3.out.mono ?_
            all_goals rintro ee w4 ⟨rfl, d3, hm3, hs3⟩
            all_goals have S4 : Aside _ := hs3
            all_goals have HM3 := Lib.hid hm3
            all_goals clear hs3 hm3 HC3
            all_goals go_wp2_with fail
            all_goals go_end0
            all_goals exact ⟨rfl, d3, merge_halves swoP HS1.out HSo.out hb f1 f2 f3 f4 he2 HF.out.c1 HF.out.c2 HRt.out HM2'.out HN2.out (fun _ _ _ _ => HM3.out) (fun h => absurd ⟨g3a, g3b⟩ h), S4.out⟩
          · have g3d : (decide ((mid : Int) < e) && decide ((e : Int) < b)) = false := by
              by_cases x : mid < e
              · rw [decide_eq_false (show ¬ (e : Int) < b by omega), Bool.and_false]
              · rw [decide_eq_false (show ¬ (mid : Int) < e by omega), Bool.false_and]
            by_cases g3x : mid < e
            · have g3y : b ≤ e := by omega
              go_wp2_with fail
              all_goals go_end0
              all_goals exact ⟨rfl, d2, merge_halves swoP HS1.out HSo.out hb f1 f2 f3 f4 he2 HF.out.c1 HF.out.c2 HRt.out HM2'.out HN2.out (fun x y => absurd ⟨x, y⟩ g3) (fun _ => rfl), S3.out⟩
            · go_wp2_with fail
              all_goals go_end0
              all_goals exact ⟨rfl, d2, merge_halves swoP HS1.out HSo.out hb f1 f2 f3 f4 he2 HF.out.c1 HF.out.c2 HRt.out HM2'.out HN2.out (fun x y => absurd ⟨x, y⟩ g3) (fun _ => rfl), S3.out⟩
        · obtain ⟨d2, hd2⟩ : ∃ d2, d2 = d1 := ⟨d1, rfl⟩
          have S3 : Aside (SWK encP 2 w0 blk off d2 w2) := by rw [hd2]; exact S2.out
          have HN2 : Hid (¬ (a < i ∧ i < mid) → d2 = d1) := Lib.hid (fun _ => hd2)
          have HM2' : Hid (a < i → i < mid → SortedIn (ltOf cfP) a i d1 → SortedIn (ltOf cfP) i mid d1 → PermIn a mid d1 d2 ∧ SortedIn (ltOf cfP) a mid d2) := Lib.hid (fun x y => absurd ⟨x, y⟩ g2)
          have HP2 : Hid (SortedIn (ltOf cfP) mid e d2 ∧ SortedIn (ltOf cfP) e b d2) := Lib.hid (by rw [hd2]; exact HPa.out.2)
          have HSz2 : Hid (d2.size = d.size) := Lib.hid (by rw [hd2]; exact HSz1.out)
          have g2d : (decide ((a : Int) < i) && decide ((i : Int) < mid)) = false := by
            by_cases x : a < i
            · rw [decide_eq_false (show ¬ (i : Int) < mid by omega), Bool.and_false]
            · rw [decide_eq_false (show ¬ (a : Int) < i by omega), Bool.false_and]
          clear S2 hd2
          by_cases g3 : mid < e ∧ e < b
          · obtain ⟨g3a, g3b⟩ := g3
            have HC3 := Lib.hid (HIH.out mid e b d2 w2 HSz2.out S3.out (by omega) g3a g3b hb HP2.out.1 HP2.out.2)
            clear S3
            go_wp2_with fail
            all_goals refine HC3.out.mono ?_
            all_goals rintro ee w4 ⟨rfl, d3, hm3, hs3⟩
            all_goals have S4 : Aside _ := hs3
            all_goals have HM3 := Lib.hid hm3
            all_goals clear hs3 hm3 HC3
            all_goals go_wp2_with fail
            all_goals go_end0
            all_goals exact ⟨rfl, d3, merge_halves swoP HS1.out HSo.out hb f1 f2 f3 f4 he2 HF.out.c1 HF.out.c2 HRt.out HM2'.out HN2.out (fun _ _ _ _ => HM3.out) (fun h => absurd ⟨g3a, g3b⟩ h), S4.out⟩
          · have g3d : (decide ((mid : Int) < e) && decide ((e : Int) < b)) = false := by
              by_cases x : mid < e
              · rw [decide_eq_false (show ¬ (e : Int) < b by omega), Bool.and_false]
              · rw [decide_eq_false (show ¬ (mid : Int) < e by omega), Bool.false_and]
            by_cases g3x : mid < e
            · have g3y : b ≤ e := by omega
              go_wp2_with fail
              all_goals go_end0
              all_goals exact ⟨rfl, d2, merge_halves swoP HS1.out HSo.out hb f1 f2 f3 f4 he2 HF.out.c1 HF.out.c2 HRt.out HM2'.out HN2.out (fun x y => absurd ⟨x, y⟩ g3) (fun _ => rfl), S3.out⟩
            · go_wp2_with fail
              all_goals go_end0
              all_goals exact ⟨rfl, d2, merge_halves swoP HS1.out HSo.out hb f1 f2 f3 f4 he2 HF.out.c1 HF.out.c2 HRt.out HM2'.out HN2.out (fun x y => absurd ⟨x, y⟩ g3) (fun _ => rfl), S3.out⟩
      · have HRt : Hid (Rot i m e d d) := Lib.hid (rot_none (by omega))
        obtain ⟨d1, hd1⟩ : ∃ d1, d1 = d := ⟨d, rfl⟩
        have S2 : Aside (SWK encP 2 w0 blk off d1 wr) := by rw [hd1]; exact S1.out
        have HRt : Hid (Rot i m e d d1) := Lib.hid (by rw [hd1]; exact HRt.out)
        have g1d : (decide ((i : Int) < m) && decide ((m : Int) < e)) = false := by
          by_cases x : i < m
          · rw [decide_eq_false (show ¬ (m : Int) < e by omega), Bool.and_false]
          · rw [decide_eq_false (show ¬ (i : Int) < m by omega), Bool.false_and]
        clear S1 hd1
        have HSz1 : Hid (d1.size = d.size) := Lib.hid HRt.out.1.1
        have HPa := Lib.hid (rot_parts HS1.out HSo.out f1 f2 f3 f4 he2 HRt.out)
        by_cases g2 : a < i ∧ i < mid
        · have := HCase.out
          omega
        · obtain ⟨d2, hd2⟩ : ∃ d2, d2 = d1 := ⟨d1, rfl⟩
          have S3 : Aside (SWK encP 2 w0 blk off d2 wr) := by rw [hd2]; exact S2.out
          have HN2 : Hid (¬ (a < i ∧ i < mid) → d2 = d1) := Lib.hid (fun _ => hd2)
          have HM2' : Hid (a < i → i < mid → SortedIn (ltOf cfP) a i d1 → SortedIn (ltOf cfP) i mid d1 → PermIn a mid d1 d2 ∧ SortedIn (ltOf cfP) a mid d2) := Lib.hid (fun x y => absurd ⟨x, y⟩ g2)
          have HP2 : Hid (SortedIn (ltOf cfP) mid e d2 ∧ SortedIn (ltOf cfP) e b d2) := Lib.hid (by rw [hd2]; exact HPa.out.2)
          have HSz2 : Hid (d2.size = d.size) := Lib.hid (by rw [hd2]; exact HSz1.out)
          have g2d : (decide ((a : Int) < i) && decide ((i : Int) < mid)) = false := by
            by_cases x : a < i
            · rw [decide_eq_false (show ¬ (i : Int) < mid by omega), Bool.and_false]
            · rw [decide_eq_false (show ¬ (a : Int) < i by omega), Bool.false_and]
          clear S2 hd2
          by_cases g3 : mid < e ∧ e < b
          · obtain ⟨g3a, g3b⟩ := g3
            have HC3 := Lib.hid (HIH.out mid e b d2 wr HSz2.out S3.out (by omega) g3a g3b hb HP2.out.1 HP2.out.2)
            clear S3
            go_wp2_with fail
            all_goals refine HC3.out.mono ?_
            all_goals rintro ee w4 ⟨rfl, d3, hm3, hs3⟩
            all_goals have S4 : Aside _ := hs3
            all_goals have HM3 := Lib.hid hm3
            all_goals clear hs3 hm3 HC3
            all_goals go_wp2_with fail
            all_goals go_end0
            all_goals exact ⟨rfl, d3, merge_halves swoP HS1.out HSo.out hb f1 f2 f3 f4 he2 HF.out.c1 HF.out.c2 HRt.out HM2'.out HN2.out (fun _ _ _ _ => HM3.out) (fun h => absurd ⟨g3a, g3b⟩ h), S4.out⟩
          · have g3d : (decide ((mid : Int) < e) && decide ((e : Int) < b)) = false := by
              by_cases x : mid < e
              · rw [decide_eq_false (show ¬ (e : Int) < b by omega), Bool.and_false]
              · rw [decide_eq_false (show ¬ (mid : Int) < e by omega), Bool.false_and]
            by_cases g3x : mid < e
            · have g3y : b ≤ e := by omega
              go_wp2_with fail
              all_goals go_end0
              all_goals exact ⟨rfl, d2, merge_halves swoP HS1.out HSo.out hb f1 f2 f3 f4 he2 HF.out.c1 HF.out.c2 HRt.out HM2'.out HN2.out (fun x y => absurd ⟨x, y⟩ g3) (fun _ => rfl), S3.out⟩
            · go_wp2_with fail
              all_goals go_end0
              all_goals exact ⟨rfl, d2, merge_halves swoP HS1.out HSo.out hb f1 f2 f3 f4 he2 HF.out.c1 HF.out.c2 HRt.out HM2'.out HN2.out (fun x y => absurd ⟨x, y⟩ g3) (fun _ => rfl), S3.out⟩

end Go.Proofs.Ytfeldgkjgfjeeaa
