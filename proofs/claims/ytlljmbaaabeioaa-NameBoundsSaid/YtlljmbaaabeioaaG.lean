/- The reference's Split, walked. -/
import Derived.Test.YtlljmbaaabeioaaF
namespace Go.Proofs.Ytlljmbaaabeioaa
open Go.RowKit

/-- what stands between two places -/
def seg (p : List UInt8) (f k : Nat) : List UInt8 := (p.drop f).take (k - f)
theorem seg_extract (p : List UInt8) (f k : Nat) : ({ data := p.toArray } : ByteArray).extract f k = { data := (seg p f k).toArray } := by
  unfold seg
  rw [ByteArray.ext_iff]
  simp [ByteArray.data_extract, List.extract_toArray]

theorem seg_nil (p : List UInt8) (n : Nat) : seg p n n = [] := by simp [seg]
theorem seg_snoc (p : List UInt8) (n k : Nat) (hn : n ≤ k) (hk : k < p.length) : seg p n (k + 1) = seg p n k ++ [p[k]] := by
  unfold seg
  have e : k + 1 - n = k - n + 1 := by omega
  have hl : k - n < (p.drop n).length := by simp; omega
  rw [e, List.take_succ_eq_append_getElem hl]
  congr 2
  simp only [List.getElem_drop]
  congr 1
  omega
theorem seg_app (p : List UInt8) (n k : Nat) (hn : n ≤ k) : p.drop n = seg p n k ++ p.drop k := by
  unfold seg
  have h := (List.take_append_drop (k - n) (p.drop n)).symm
  rwa [List.drop_drop, show n + (k - n) = k by omega] at h
theorem seg_head (p : List UInt8) (n k : Nat) (hn : n ≤ k) (hb : p.length ≤ k ∨ p[k]? = some 47) (h : (seg p n k).contains 47 = false) : headP (p.drop n) = seg p n k ∧ restP (p.drop n) = p.drop (k + 1) := by
  have h' : ∀ x ∈ seg p n k, (x != 47) = true := by
    intro x hx
    have h2 : (47 : UInt8) ∉ seg p n k := by simpa using h
    simp; intro e; subst e; exact h2 hx
  have hd : (p.drop k).takeWhile (fun b => b != 47) = [] ∧ ((p.drop k).dropWhile (fun b => b != 47)).drop 1 = p.drop (k + 1) := by
    rcases hb with hb | hb
    · have e : p.drop (k + 1) = [] := List.drop_eq_nil_of_le (by omega)
      rw [List.drop_eq_nil_of_le hb, e]; simp
    · obtain ⟨hk, hb⟩ := List.getElem?_eq_some_iff.1 hb
      rw [List.drop_eq_getElem_cons hk, hb]; simp
  unfold headP restP
  rw [seg_app p n k hn, List.takeWhile_append_of_pos h', List.dropWhile_append_of_pos h', hd.1, hd.2]
  simp
theorem step_parts (p : List UInt8) (n k : Nat) (L : List (List UInt8)) (hn : n ≤ k) (hb : p.length ≤ k ∨ p[k]? = some 47) (h : (seg p n k).contains 47 = false) (hL : L ++ partsOf (p.drop n) = partsOf p) :
    (keepP (seg p n k) = true → (L ++ [seg p n k]) ++ partsOf (p.drop (k + 1)) = partsOf p) ∧ (keepP (seg p n k) = false → L ++ partsOf (p.drop (k + 1)) = partsOf p) := by
  obtain ⟨h1, h2⟩ := seg_head p n k hn hb h
  by_cases h0 : p.drop n = []
  · rw [h0] at h1 h2 hL
    rw [← h1, ← h2]
    refine ⟨fun h => by simp [headP, keepP] at h, fun _ => ?_⟩
    simpa [restP] using hL
  · refine ⟨fun hk => ?_, fun hk => ?_⟩
    · rw [parts_keep h0 (by rw [h1]; exact hk), h1, h2] at hL
      rw [List.append_assoc]; exact hL
    · rw [parts_skip h0 (by rw [h1]; exact hk), h2] at hL
      exact hL
theorem code_long (p : List UInt8) (n k : Nat) (L : List (List UInt8)) (hn : n ≤ k) (hb : p.length ≤ k ∨ p[k]? = some 47) (h : (seg p n k).contains 47 = false) (hL : L ++ partsOf (p.drop n) = partsOf p)
    (hlong : 255 < (seg p n k).length) (h1 : ¬ 4096 < p.length) (h0 : p.contains 0 = false) : codeOf p = 1 := by
  have hk : keepP (seg p n k) = true := by
    unfold keepP
    have e1 : seg p n k ≠ [] := fun e => by rw [e] at hlong; simp at hlong
    have e2 : seg p n k ≠ [46] := fun e => by rw [e] at hlong; simp at hlong
    simp [e1, e2]
  have hm : seg p n k ∈ partsOf p := by rw [← (step_parts p n k L hn hb h hL).1 hk]; simp
  have hany : (partsOf p).any (fun s => decide (255 < s.length)) = true := List.any_eq_true.2 ⟨_, hm, by simpa using hlong⟩
  unfold codeOf
  rw [if_neg h1, h0, hany]; simp

/-- the code that the reference tells -/
def RSplitPost (p : List UInt8) (w : World) (e : Ending) (w' : World) : Prop :=
  ∃ v, e = .returned (.tuple #[v, .int .i64 (codeOf p)]) ∧ w'.ownsRow w.heap.size 9 1 v (psOf p).length ((psOf p).map str) ∧ Below w.heap.size w w'

theorem below_app {N : Nat} {w wr w1 : World} {v : Value} {n : Nat} {xs : List Value} {tmp : Obj} (hr : wr.ownsRow N 9 1 v n xs) (hb : Below N w wr) (hg : (wr.alloc tmp).grownBy w1 v.ownBlock) (hN : N ≤ wr.heap.size) : Below N w w1 :=
  hb.trans (((Below.refl N wr).alloc hN tmp).grown hg (by simp; omega) (fun j ej => (hr.lt j ej).1))

set_option maxRecDepth 100000 in
set_option maxHeartbeats 2000000 in
theorem rsplit_any (p : List UInt8) (w : World) (hp : p.length ≤ 1000000) : Calls Try.prog 13 #[str p] w (RSplitPost p w) := by
  obtain ⟨i0, hi, hz0, hz1, hz2⟩ := info_parts info9
  unfold str
  by_cases h1 : 4096 < p.length
  · have HC : Hid (codeOf p = 2) := Lib.hid (by unfold codeOf; rw [if_pos h1])
    go_enter Try.func13, Try.ntmps13
    go_wp2_with fail
    go_ret2
    exact ⟨_, by rw [HC.out]; rfl, by unfold psOf; rw [HC.out]; exact World.ownsRow_nil _ _ _ _, Below.refl _ _⟩
  · go_enter Try.func13, Try.ntmps13
    go_wp2_with fail
    go_loop [4] (fun i => ∃ j : Nat, j ≤ p.length ∧ i = .int .i64 j ∧ Hid ((p.take j).contains 0 = false)) (fun i => p.length - (intOf i).toNat)
    case atStart => exact ⟨0, Nat.zero_le _, rfl, Lib.hid rfl⟩
    case round =>
      obtain ⟨j, hj, rfl, HI⟩ := hrel
      by_cases hlt : j < p.length
      · have hx := byte_at hlt
        have HC1 : Hid ((p[j].toNat : Int) = 0 → p.contains 0 = true) := Lib.hid (fun h => by
          have : p[j] = 0 := UInt8.toNat_inj.1 (by simpa using h)
          rw [← this]; exact List.contains_iff_mem.2 (List.getElem_mem hlt))
        have HC2 : Hid ((p[j].toNat : Int) ≠ 0 → (p.take (j + 1)).contains 0 = false) := Lib.hid (fun h => by
          rw [List.take_succ_eq_append_getElem hlt, List.contains_eq_any_beq, List.any_append, ← List.contains_eq_any_beq, HI.out, Bool.false_or]
          simp; intro e; exact h (by rw [← e]; rfl))
        generalize p[j] = x at *
        by_cases x0 : (x.toNat : Int) = 0
        · have HV : Hid (codeOf p = 6) := Lib.hid (by unfold codeOf; rw [if_neg h1, if_pos (HC1.out x0)])
          have b0 : ((x.toNat : Int) == 0) = true := beq_iff_eq.2 x0
          clear x0
          go_wp2_with fail
          go_ret2
          exact ⟨_, by rw [HV.out]; rfl, by unfold psOf; rw [HV.out]; exact World.ownsRow_nil _ _ _ _, Below.refl _ _⟩
        · have b0 : ((x.toNat : Int) == 0) = false := beq_eq_false_iff_ne.2 x0
          have HN := Lib.hid (HC2.out x0)
          clear x0
          go_wp2_with fail
          go_round
          case rel => exact ⟨j + 1, by omega, by go_num, HN⟩
          case measure => simp [intOf]; omega
      · obtain rfl : j = p.length := by omega
        have HZ : Hid (p.contains 0 = false) := Lib.hid (by have h := HI.out; rwa [List.take_length] at h)
        go_wp2_with fail
        go_loopg [5, 6, 7] (p.length + 1) (fun g l f i wr => ∃ (k n : Nat) (L : List (List UInt8)), k + g = p.length + 1 ∧ n ≤ k ∧ L.length ≤ k ∧ i = .int .i64 k ∧ f = .int .i64 n ∧ Hid (wr.ownsRow w.heap.size 9 1 l L.length (L.map str)) ∧ Hid (Below w.heap.size w wr) ∧ Hid ((∀ x ∈ L, x.length ≤ 255) ∧ L ++ partsOf (p.drop n) = partsOf p ∧ (seg p n k).contains 47 = false ∧ (k ≤ p.length ∨ n = k)))
        case atStart => exact ⟨0, 0, [], by omega, by omega, by simp, rfl, rfl, Lib.hid (World.ownsRow_nil _ _ _ _), Lib.hid (Below.refl _ _), Lib.hid ⟨fun x hx => by simp at hx, rfl, rfl, .inl (by omega)⟩⟩
        case round =>
          obtain ⟨k, n, L, hkg, hnk, hLk, rfl, rfl, HR, HB, HI2⟩ := hrel
          have HS := HI2.out
          by_cases hk : k ≤ p.length
          · by_cases hb : p.length ≤ k ∨ p[k]? = some 47
            · have HP := Lib.hid (step_parts p n k L hnk hb HI2.out.2.2.1 HI2.out.2.1)
              have HL := Lib.hid (fun h => code_long p n k L hnk hb HI2.out.2.2.1 HI2.out.2.1 h h1 HZ.out)
              have HA := Lib.hid HI2.out.1
              have hx := seg_extract p n k
              clear HI2 HS
              generalize seg p n k = s at *
              have hy : k < p.length → ∃ h : k < p.length, ((({ data := p.toArray } : ByteArray)[k]'(by simpa [ByteArray.size] using h)).toNat : Int) = 47 := by
                intro h
                rcases hb with hb | hb
                · omega
                · obtain ⟨_, hb⟩ := List.getElem?_eq_some_iff.1 hb
                  exact ⟨h, by rw [byte_at h, hb]; rfl⟩
              by_cases hk2 : k < p.length
              · obtain ⟨_, hy2⟩ := hy hk2
                clear hy hb
                by_cases hs : 255 < s.length
                · have HC := Lib.hid (HL.out hs)
                  clear HL HP
                  go_wp2_with fail
                  go_ret2
                  exact ⟨_, by rw [HC.out]; rfl, by unfold psOf; rw [HC.out]; exact World.ownsRow_nil _ _ _ _, HB.out⟩
                · by_cases hs0 : s = []
                  · subst hs0
                    have HP2 := Lib.hid (HP.out.2 rfl)
                    clear HP HL
                    go_wp2_with fail
                    go_roundg (p.length + 1 - (k + 1))
                    case measure => omega
                    case rel => exact ⟨k + 1, k + 1, L, by omega, by omega, by omega, by go_num, by go_num, HR, HB, Lib.hid ⟨HA.out, HP2.out, by rw [seg_nil]; rfl, .inr rfl⟩⟩
                  · by_cases hs1 : s = [46]
                    · subst hs1
                      have HP2 := Lib.hid (HP.out.2 rfl)
                      clear HP HL
                      go_wp2_with fail
                      go_roundg (p.length + 1 - (k + 1))
                      case measure => omega
                      case rel => exact ⟨k + 1, k + 1, L, by omega, by omega, by omega, by go_num, by go_num, HR, HB, Lib.hid ⟨HA.out, HP2.out, by rw [seg_nil]; rfl, .inr rfl⟩⟩
                    · have HP2 := Lib.hid (HP.out.1 (by unfold keepP; simp [hs0, hs1]))
                      have e0 : s.isEmpty = false := by simpa using hs0
                      have e1 : (s == [46]) = false := beq_eq_false_iff_ne.2 hs1
                      have hBz := HB.out.size
                      clear HP HL hs0 hs1
                      go_wp2_with (at_builtin; refine wpList_append_own _ rfl _ _ 22 rfl w.heap.size 9 i0 (.string ⟨#[]⟩) 1 16 Try.underlying22 hi hz0 hz1 hz2 rfl (by decide) _ _ _ rfl (HR.out.alloc _) ⟨wr.heap.size, 0, none⟩ 1 1 [.string { data := s.toArray }] rfl rfl (cell_one_new _ _ _) (by simp [Value.oneCell']) (by unfold maxLen; omega) (by omega) (by simp; omega) ?_; intro v' w1 hown' hgrow _; have HO := Lib.hid hown'; have HG := Lib.hid hgrow; clear hown' hgrow)
                      go_roundg (p.length + 1 - (k + 1))
                      case measure => omega
                      case rel => exact ⟨k + 1, k + 1, L ++ [s], by omega, by omega, by simp; omega, by go_num, by go_num, Lib.hid (by simpa [str] using HO.out), Lib.hid (below_app HR.out HB.out HG.out hBz), Lib.hid ⟨fun x hx => by (rcases List.mem_append.1 hx with hx | hx); exact HA.out x hx; (simp at hx; subst hx; omega), HP2.out, by rw [seg_nil]; rfl, .inr rfl⟩⟩
              · clear hy hb
                by_cases hs : 255 < s.length
                · have HC := Lib.hid (HL.out hs)
                  clear HL HP
                  go_wp2_with fail
                  go_ret2
                  exact ⟨_, by rw [HC.out]; rfl, by unfold psOf; rw [HC.out]; exact World.ownsRow_nil _ _ _ _, HB.out⟩
                · by_cases hs0 : s = []
                  · subst hs0
                    have HP2 := Lib.hid (HP.out.2 rfl)
                    clear HP HL
                    go_wp2_with fail
                    go_roundg (p.length + 1 - (k + 1))
                    case measure => omega
                    case rel => exact ⟨k + 1, k + 1, L, by omega, by omega, by omega, by go_num, by go_num, HR, HB, Lib.hid ⟨HA.out, HP2.out, by rw [seg_nil]; rfl, .inr rfl⟩⟩
                  · by_cases hs1 : s = [46]
                    · subst hs1
                      have HP2 := Lib.hid (HP.out.2 rfl)
                      clear HP HL
                      go_wp2_with fail
                      go_roundg (p.length + 1 - (k + 1))
                      case measure => omega
                      case rel => exact ⟨k + 1, k + 1, L, by omega, by omega, by omega, by go_num, by go_num, HR, HB, Lib.hid ⟨HA.out, HP2.out, by rw [seg_nil]; rfl, .inr rfl⟩⟩
                    · have HP2 := Lib.hid (HP.out.1 (by unfold keepP; simp [hs0, hs1]))
                      have e0 : s.isEmpty = false := by simpa using hs0
                      have e1 : (s == [46]) = false := beq_eq_false_iff_ne.2 hs1
                      have hBz := HB.out.size
                      clear HP HL hs0 hs1
                      go_wp2_with (at_builtin; refine wpList_append_own _ rfl _ _ 22 rfl w.heap.size 9 i0 (.string ⟨#[]⟩) 1 16 Try.underlying22 hi hz0 hz1 hz2 rfl (by decide) _ _ _ rfl (HR.out.alloc _) ⟨wr.heap.size, 0, none⟩ 1 1 [.string { data := s.toArray }] rfl rfl (cell_one_new _ _ _) (by simp [Value.oneCell']) (by unfold maxLen; omega) (by omega) (by simp; omega) ?_; intro v' w1 hown' hgrow _; have HO := Lib.hid hown'; have HG := Lib.hid hgrow; clear hown' hgrow)
                      go_roundg (p.length + 1 - (k + 1))
                      case measure => omega
                      case rel => exact ⟨k + 1, k + 1, L ++ [s], by omega, by omega, by simp; omega, by go_num, by go_num, Lib.hid (by simpa [str] using HO.out), Lib.hid (below_app HR.out HB.out HG.out hBz), Lib.hid ⟨fun x hx => by (rcases List.mem_append.1 hx with hx | hx); exact HA.out x hx; (simp at hx; subst hx; omega), HP2.out, by rw [seg_nil]; rfl, .inr rfl⟩⟩
            · have hk2 : k < p.length := by
                rcases Nat.lt_or_ge k p.length with h | h
                · exact h
                · exact absurd (.inl h) hb
              have hx := byte_at hk2
              have hx47 : p[k] ≠ 47 := fun e => hb (.inr (by rw [List.getElem?_eq_getElem hk2, e]))
              have HN : Hid ((seg p n (k + 1)).contains 47 = false) := Lib.hid (by
                have := HI2.out.2.2.1
                rw [seg_snoc p n k hnk hk2, List.contains_eq_any_beq, List.any_append, ← List.contains_eq_any_beq, this, Bool.false_or]
                simp; exact fun e => hx47 e.symm)
              have hx2 : ((p[k].toNat : Int) == 47) = false := beq_eq_false_iff_ne.2 (fun e => hx47 (UInt8.toNat_inj.1 (Int.ofNat_inj.1 e)))
              clear hx47 hb HS
              generalize p[k] = x at *
              have d1 : decide (k < p.length) = true := decide_eq_true hk2
              go_wp2_with fail
              go_roundg (p.length + 1 - (k + 1))
              case measure => omega
              case rel => exact ⟨k + 1, n, L, by omega, by omega, by omega, by go_num, rfl, HR, HB, Lib.hid ⟨HI2.out.1, HI2.out.2.1, HN.out, .inl (by omega)⟩⟩
          · have hk3 : k = p.length + 1 := by omega
            have HPL : Hid (L = partsOf p) := Lib.hid (by
              have h2 := HI2.out.2.1
              have hn2 : n = k := by rcases HI2.out.2.2.2 with h | h; exact absurd h hk; exact h
              rw [hn2, hk3, List.drop_eq_nil_of_le (by omega), parts_nil, List.append_nil] at h2
              exact h2)
            have HAny : Hid ((partsOf p).any (fun s => decide (255 < s.length)) = false) := Lib.hid (by
              rw [List.any_eq_false]; intro x hx; rw [← HPL.out] at hx; have := HI2.out.1 x hx; simp; omega)
            have HCode : Hid (codeOf p = if 128 < L.length then 3 else 0) := Lib.hid (by unfold codeOf; rw [if_neg h1, HZ.out, HAny.out, HPL.out]; simp)
            obtain ⟨a9, c9, rfl⟩ := row_form HR.out
            clear HI2 HS hk3
            obtain ⟨nl, hnl⟩ : ∃ nl, Hid (L.length = nl) := ⟨_, Lib.hid rfl⟩
            rw [hnl.out] at HCode HR hLk
            rw [hnl.out]
            by_cases hmany : 128 < nl
            · have HC : Hid (codeOf p = 3) := Lib.hid (by rw [HCode.out, if_pos hmany])
              go_wp2_with fail
              go_ret2
              exact ⟨_, by rw [HC.out]; rfl, by unfold psOf; rw [HC.out]; exact World.ownsRow_nil _ _ _ _, HB.out⟩
            · have HC : Hid (codeOf p = 0) := Lib.hid (by rw [HCode.out, if_neg hmany])
              go_wp2_with fail
              go_ret2
              exact ⟨_, by rw [HC.out]; rfl, by unfold psOf; rw [HC.out, if_pos rfl, ← HPL.out, hnl.out]; exact HR.out, HB.out⟩
end Go.Proofs.Ytlljmbaaabeioaa
