/- Join, the program's and the reference's: walks. -/
import Derived.Test.YtlljmbaaabeioaaI
import Derived.Test.YtlljmbaaabeioaaV
namespace Go.Proofs.Ytlljmbaaabeioaa
open Go.RowKit

/-- a part that may not stand in a path -/
def badB (p : List UInt8) : Bool := !(p == [46, 46]) && !validB p

theorem pred_any (p : List UInt8) (w : World) : Calls Try.prog 27 #[str p] w fun e w' => e = .returned (.bool (badB p)) ∧ w = w' := by
  have HV := Lib.hid (valid_any p)
  unfold str at *
  by_cases h : p = [46, 46]
  · subst h
    clear HV
    go_enter Try.func27, Try.ntmps27
    go_wp2_with fail
    go_ret
    exact ⟨rfl, rfl⟩
  · have e : (p == [46, 46]) = false := beq_eq_false_iff_ne.2 h
    have HB : Hid (badB p = !validB p) := Lib.hid (by unfold badB; rw [e]; simp)
    clear h
    generalize validB p = b at *
    go_enter Try.func27, Try.ntmps27
    go_wp2_with fail
    refine (HV.out _).mono ?_
    rintro e w1 ⟨rfl, rfl⟩
    go_wp2_with fail
    go_ret
    exact ⟨by rw [HB.out]; simp, rfl⟩

set_option maxHeartbeats 800000 in
theorem index_any {w : World} {v : Value} {ps : List (List UInt8)} (h : SAt w v ps) (hl : ps.length ≤ 1000000) : Calls Try.prog 34 #[v, .func (.func 27) #[] #[]] w fun e w' => (∃ k : Int, e = .returned (.int .i64 k) ∧ decide (0 ≤ k) = ps.any badB) ∧ ∃ n, w' = w.drewN n := by
  obtain ⟨a, c, rfl, g⟩ := h
  have HG := Lib.hid g
  clear g
  obtain ⟨n1, hn1⟩ : ∃ n1, Hid (ps.length = n1) := ⟨_, Lib.hid rfl⟩
  rw [hn1.out] at hl ⊢
  go_enter Try.func34, Try.ntmps34
  go_wp2_with fail
  go_loopg [8] n1 (fun g i wr => ∃ k : Nat, k + g = n1 ∧ i = .int .i64 k ∧ Hid (∃ n, wr = w.drewN n) ∧ Hid ((ps.take k).any badB = false))
  case atStart => exact ⟨0, by omega, rfl, Lib.hid ⟨0, rfl⟩, Lib.hid rfl⟩
  case round =>
    obtain ⟨k, hk, rfl, HD, HT⟩ := hrel
    by_cases hlt : k < n1
    · have hk1 : k < ps.length := by rw [hn1.out]; exact hlt
      obtain ⟨b1, o1, rfl, q1⟩ := HG.out k hk1
      have r1 : wr.cell? ⟨b1, o1 + k, none⟩ = some (str ps[k]) := by obtain ⟨n, hn⟩ := HD.out; rw [hn]; exact q1
      have HA : Hid (badB ps[k] = true → ps.any badB = true) := Lib.hid (fun h => List.any_eq_true.2 ⟨_, List.getElem_mem hk1, h⟩)
      have HB : Hid (badB ps[k] = false → (ps.take (k + 1)).any badB = false) := Lib.hid (fun h => by
        rw [List.take_succ_eq_append_getElem hk1, List.any_append, HT.out]; simpa using h)
      clear q1
      generalize ps[k] = x at *
      clear hk1
      have HP := Lib.hid (pred_any x)
      unfold str at r1 HP
      cases hx : badB x
      · have HV := Lib.hid (HB.out hx)
        rw [hx] at HP
        go_wp2_with fail
        refine (HP.out _).mono ?_
        rintro e w1 ⟨rfl, rfl⟩
        go_wp2_with fail
        go_roundg (n1 - (k + 1))
        case measure => omega
        case rel => exact ⟨k + 1, by omega, by go_num, HD, HV⟩
      · have HV := Lib.hid (HA.out hx)
        rw [hx] at HP
        go_wp2_with fail
        refine (HP.out _).mono ?_
        rintro e w1 ⟨rfl, rfl⟩
        go_wp2_with fail
        go_ret
        exact ⟨⟨k, rfl, by rw [HV.out]; exact decide_eq_true (Int.natCast_nonneg k)⟩, HD.out⟩
    · have HV : Hid (ps.any badB = false) := Lib.hid (by
        have h := HT.out
        rwa [List.take_of_length_le (by rw [hn1.out]; omega)] at h)
      go_wp2_with fail
      go_ret
      exact ⟨⟨-1, rfl, by rw [HV.out]; rfl⟩, HD.out⟩

theorem contains_any {w : World} {v : Value} {ps : List (List UInt8)} (h : SAt w v ps) (hl : ps.length ≤ 1000000) : Calls Try.prog 26 #[v, .func (.func 27) #[] #[]] w fun e w' => e = .returned (.bool (ps.any badB)) ∧ ∃ n, w' = w.drewN n := by
  have HI := Lib.hid (index_any h hl)
  obtain ⟨a, c, rfl, g⟩ := h
  clear g
  go_enter Try.func26, Try.ntmps26
  go_wp2_with fail
  refine HI.out.mono ?_
  rintro e w1 ⟨⟨k, rfl, hk⟩, hw⟩
  have HK := Lib.hid hk
  have HW := Lib.hid hw
  clear hk hw
  go_wp2_with fail
  go_ret
  exact ⟨by rw [← HK.out]; rfl, HW.out⟩

def joinCode (ps : List (List UInt8)) : Int := if 128 < ps.length then 3 else if ps.any badB then 1 else if 4096 < (joinP ps).length then 2 else 0
def joinTxt (ps : List (List UInt8)) : List UInt8 := if joinCode ps = 0 then joinP ps else []

theorem sjoin_any {w : World} {a : Option Addr} {l c : Nat} {ps : List (List UInt8)} (h : LAt w a l c ps) (hc : l ≤ c) (hl : l ≤ 300) (hs : ∀ p ∈ ps, p.length ≤ 5000) (n : Nat) :
    Calls Try.prog 28 #[.slice a l c, .string ⟨#[47]⟩] (w.drewN n) fun e w' => e = .returned (str (joinP ps)) ∧ Below w.heap.size w w' := by
  by_cases h0 : l = 0
  · subst h0
    have hp : ps = [] := List.length_eq_zero_iff.1 h.1
    subst hp
    refine (Try.strings_Join_none a c ⟨#[47]⟩ _).mono ?_
    rintro e w' ⟨rfl, rfl⟩
    exact ⟨rfl, below_drewN (Below.refl _ _) n⟩
  · obtain ⟨bk, o, rfl, hc0⟩ := h.2.2 0 (by rw [h.1]; omega)
    have hlen := join_len ps 5000 hs
    have hm : (ps.map (fun p => (⟨p.toArray⟩ : ByteArray))).map (·.data.toList) = ps := by
      rw [List.map_map]; exact (List.map_congr_left (fun x _ => rfl)).trans (List.map_id ps)
    have hle : (ps.map (fun p => (⟨p.toArray⟩ : ByteArray))).length = l := by simp [h.1]
    have hj := Try.strings_Join bk o c (ps.map (fun p => ⟨p.toArray⟩)) ⟨#[47]⟩ (w.drewN n) (fun j x hj => by
      have hj2 : j < ps.length := by have := (List.getElem?_eq_some_iff.1 hj).1; simpa using this
      obtain ⟨b', o', e, hcj⟩ := h.2.2 j hj2
      injection e with e; injection e with e1 e2 _
      subst e1 e2
      rw [List.getElem?_map, List.getElem?_eq_getElem hj2] at hj
      injection hj with hj
      subst hj
      exact hcj) (World.block_lt_of_cell? w _ hc0) (by rw [hle]; omega) (by rw [hle]; exact hc) (by
        rw [hm]
        have h3 : ps.length * 5001 ≤ 300 * 5001 := Nat.mul_le_mul_right _ (by rw [h.1]; exact hl)
        have h4 : (Lib.join ps (⟨#[47]⟩ : ByteArray).data.toList).length ≤ ps.length * 5001 := hlen
        omega)
    rw [hm, hle] at hj
    refine hj.mono ?_
    rintro e w' ⟨rfl, hb⟩
    exact ⟨rfl, (below_drewN (Below.refl _ _) n).trans hb⟩

set_option maxHeartbeats 800000 in
theorem njoin_any {w : World} {a : Option Addr} {l c : Nat} {ps : List (List UInt8)} (h : LAt w a l c ps) (hc : l ≤ c) (hl : l ≤ 300) (hs : ∀ p ∈ ps, p.length ≤ 5000) :
    Calls Try.prog 18 #[.slice a l c] w fun e w' => e = .returned (.tuple #[str (joinTxt ps), .int .i64 (joinCode ps)]) ∧ Below w.heap.size w w' := by
  have HC := Lib.hid (contains_any h.sat (by rw [h.1]; omega))
  have HJ := Lib.hid (sjoin_any h hc hl hs)
  have HL := Lib.hid h.1
  clear h hs
  by_cases h1 : 128 < l
  · have HV : Hid (joinCode ps = 3) := Lib.hid (by unfold joinCode; rw [HL.out, if_pos h1])
    clear HC HJ
    go_enter Try.func18, Try.ntmps18
    go_wp2_with fail
    go_ret2
    exact ⟨by unfold joinTxt; rw [HV.out]; rfl, Below.refl _ _⟩
  · cases h2 : ps.any badB
    · by_cases h3 : 4096 < (joinP ps).length
      · have HV : Hid (joinCode ps = 2) := Lib.hid (by unfold joinCode; rw [HL.out, if_neg h1, h2, if_neg (by simp), if_pos h3])
        rw [h2] at HC
        clear h2
        generalize joinP ps = jp at *
        unfold str at HJ
        go_enter Try.func18, Try.ntmps18
        go_wp2_with fail
        refine HC.out.mono ?_
        rintro e w1 ⟨rfl, n1, rfl⟩
        go_wp2_with fail
        refine (HJ.out _).mono ?_
        rintro e w1 ⟨rfl, hb⟩
        have HB := Lib.hid hb
        clear hb
        go_wp2_with fail
        go_ret2
        exact ⟨by unfold joinTxt; rw [HV.out]; rfl, HB.out⟩
      · have HV : Hid (joinCode ps = 0) := Lib.hid (by unfold joinCode; rw [HL.out, if_neg h1, h2, if_neg (by simp), if_neg h3])
        have HT : Hid (joinTxt ps = joinP ps) := Lib.hid (by unfold joinTxt; rw [HV.out]; rfl)
        rw [h2] at HC
        clear h2
        generalize joinP ps = jp at *
        unfold str at HJ
        go_enter Try.func18, Try.ntmps18
        go_wp2_with fail
        refine HC.out.mono ?_
        rintro e w1 ⟨rfl, n1, rfl⟩
        go_wp2_with fail
        refine (HJ.out _).mono ?_
        rintro e w1 ⟨rfl, hb⟩
        have HB := Lib.hid hb
        clear hb
        go_wp2_with fail
        go_ret2
        exact ⟨by rw [HV.out, HT.out]; rfl, HB.out⟩
    · have HV : Hid (joinCode ps = 1) := Lib.hid (by unfold joinCode; rw [HL.out, if_neg h1, h2, if_pos rfl])
      rw [h2] at HC
      clear h2 HJ
      go_enter Try.func18, Try.ntmps18
      go_wp2_with fail
      refine HC.out.mono ?_
      rintro e w1 ⟨rfl, n1, rfl⟩
      go_wp2_with fail
      go_ret2
      exact ⟨by unfold joinTxt; rw [HV.out]; rfl, below_drewN (Below.refl _ _) n1⟩

theorem str_add (x y : List UInt8) : ({ data := x.toArray } : ByteArray) ++ ({ data := y.toArray } : ByteArray) = { data := (x ++ y).toArray } := by
  rw [ByteArray.ext_iff]; simp

set_option maxRecDepth 100000 in
set_option maxHeartbeats 1600000 in
theorem rjoin_any {w : World} {v : Value} {ps : List (List UInt8)} (h : SAt w v ps) (hs : ∀ p ∈ ps, p.length ≤ 5000) :
    Calls Try.prog 19 #[v] w fun e w' => e = .returned (.tuple #[str (joinTxt ps), .int .i64 (joinCode ps)]) ∧ ∃ n, w' = w.drewN n := by
  obtain ⟨a, c, rfl, g⟩ := h
  have HG := Lib.hid g
  have HS := Lib.hid hs
  clear g hs
  obtain ⟨n1, hn1⟩ : ∃ n1, Hid (ps.length = n1) := ⟨_, Lib.hid rfl⟩
  rw [hn1.out]
  by_cases h1 : 128 < n1
  · have HV : Hid (joinCode ps = 3) := Lib.hid (by unfold joinCode; rw [hn1.out, if_pos h1])
    go_enter Try.func19, Try.ntmps19
    go_wp2_with fail
    go_ret2
    exact ⟨by unfold joinTxt; rw [HV.out]; rfl, 0, rfl⟩
  · go_enter Try.func19, Try.ntmps19
    go_wp2_with fail
    go_loopg [4, 5] n1 (fun g s i wr => ∃ (k : Nat) (jp : List UInt8), k + g = n1 ∧ i = .int .i64 k ∧ s = str jp ∧ jp.length ≤ 1000000 ∧ Hid (jp = joinP (ps.take k)) ∧ Hid (∃ n, wr = w.drewN n) ∧ Hid ((ps.take k).any badB = false))
    case atStart => exact ⟨0, [], by omega, rfl, rfl, by simp, Lib.hid rfl, Lib.hid ⟨0, rfl⟩, Lib.hid rfl⟩
    case round =>
      obtain ⟨k, jp, hk, rfl, rfl, hjl, HJ, HD, HT⟩ := hrel
      by_cases hlt : k < n1
      · have hk1 : k < ps.length := by rw [hn1.out]; exact hlt
        obtain ⟨b1, o1, rfl, q1⟩ := HG.out k hk1
        have r1 : wr.cell? ⟨b1, o1 + k, none⟩ = some (str ps[k]) := by obtain ⟨n, hn⟩ := HD.out; rw [hn]; exact q1
        have hx5 : ps[k].length ≤ 5000 := HS.out _ (List.getElem_mem hk1)
        have HA : Hid (badB ps[k] = true → ps.any badB = true) := Lib.hid (fun h => List.any_eq_true.2 ⟨_, List.getElem_mem hk1, h⟩)
        have HB : Hid (badB ps[k] = false → (ps.take (k + 1)).any badB = false) := Lib.hid (fun h => by
          rw [List.take_succ_eq_append_getElem hk1, List.any_append, HT.out]; simpa using h)
        have HN : Hid (joinP (ps.take (k + 1)) = (if k = 0 then [] else jp ++ [47]) ++ ps[k]) := Lib.hid (by rw [HJ.out]; exact join_step ps k hk1)
        have HL : Hid ((joinP (ps.take (k + 1))).length ≤ 1000000) := Lib.hid (by
          have := join_len (ps.take (k + 1)) 5000 (fun p hp => HS.out p (List.mem_of_mem_take hp))
          have h2 : (ps.take (k + 1)).length ≤ 129 := by rw [List.length_take]; omega
          have h3 : (ps.take (k + 1)).length * 5001 ≤ 129 * 5001 := Nat.mul_le_mul_right _ h2
          omega)
        clear q1
        generalize ps[k] = x at *
        clear hk1
        have HP := Lib.hid (rvalid_any x (by omega))
        unfold str at r1 HP ⊢
        by_cases hx2 : x = [46, 46]
        · subst hx2
          clear HP
          have HV := Lib.hid (HB.out rfl)
          have HJ0 : Hid (k ≤ 0 → jp = []) := Lib.hid (fun h => by rw [HJ.out, show k = 0 by omega]; rfl)
          by_cases hk0 : 0 < k
          · have HE : Hid (jp ++ [47] ++ [46, 46] = joinP (ps.take (k + 1))) := Lib.hid (by rw [HN.out, if_neg (by omega)])
            go_wp2_with fail
            go_roundg (n1 - (k + 1))
            case measure => omega
            case rel => exact ⟨k + 1, jp ++ [47] ++ [46, 46], by omega, by go_num, by simp [str, str_add], by rw [HE.out]; exact HL.out, HE, HD, HV⟩
          · have HE : Hid (jp ++ [46, 46] = joinP (ps.take (k + 1))) := Lib.hid (by rw [HN.out, if_pos (by omega), HJ0.out (by omega)])
            go_wp2_with fail
            go_roundg (n1 - (k + 1))
            case measure => omega
            case rel => exact ⟨k + 1, jp ++ [46, 46], by omega, by go_num, by simp [str, str_add], by rw [HE.out]; exact HL.out, HE, HD, HV⟩
        · have e : (x == [46, 46]) = false := beq_eq_false_iff_ne.2 hx2
          clear hx2
          cases hv : validB x
          · have HV := Lib.hid (HA.out (by unfold badB; rw [e, hv]; rfl))
            have HC : Hid (joinCode ps = 1) := Lib.hid (by unfold joinCode; rw [hn1.out, if_neg h1, HV.out, if_pos rfl])
            rw [hv] at HP
            go_wp2_with fail
            refine (HP.out _).mono ?_
            rintro e w1 ⟨rfl, rfl⟩
            go_wp2_with fail
            go_ret2
            exact ⟨by unfold joinTxt; rw [HC.out]; rfl, HD.out⟩
          · have HV := Lib.hid (HB.out (by unfold badB; rw [e, hv]; rfl))
            rw [hv] at HP
            have HJ0 : Hid (k ≤ 0 → jp = []) := Lib.hid (fun h => by rw [HJ.out, show k = 0 by omega]; rfl)
            by_cases hk0 : 0 < k
            · have HE : Hid (jp ++ [47] ++ x = joinP (ps.take (k + 1))) := Lib.hid (by rw [HN.out, if_neg (by omega)])
              go_wp2_with fail
              refine (HP.out _).mono ?_
              rintro e w1 ⟨rfl, rfl⟩
              go_wp2_with fail
              go_roundg (n1 - (k + 1))
              case measure => omega
              case rel => exact ⟨k + 1, jp ++ [47] ++ x, by omega, by go_num, by simp [str, str_add], by rw [HE.out]; exact HL.out, HE, HD, HV⟩
            · have HE : Hid (jp ++ x = joinP (ps.take (k + 1))) := Lib.hid (by rw [HN.out, if_pos (by omega), HJ0.out (by omega)])
              go_wp2_with fail
              refine (HP.out _).mono ?_
              rintro e w1 ⟨rfl, rfl⟩
              go_wp2_with fail
              go_roundg (n1 - (k + 1))
              case measure => omega
              case rel => exact ⟨k + 1, jp ++ x, by omega, by go_num, by simp [str, str_add], by rw [HE.out]; exact HL.out, HE, HD, HV⟩
      · have HAll : Hid (ps.any badB = false) := Lib.hid (by
          have h := HT.out
          rwa [List.take_of_length_le (by rw [hn1.out]; omega)] at h)
        have HJA : Hid (joinP ps = jp) := Lib.hid (by
          have h := HJ.out
          rw [List.take_of_length_le (by rw [hn1.out]; omega)] at h
          exact h.symm)
        unfold str
        by_cases h4 : 4096 < jp.length
        · have HC : Hid (joinCode ps = 2) := Lib.hid (by unfold joinCode; rw [hn1.out, if_neg h1, HAll.out, if_neg (by simp), HJA.out, if_pos h4])
          go_wp2_with fail
          go_ret2
          exact ⟨by unfold joinTxt; rw [HC.out]; rfl, HD.out⟩
        · have HC : Hid (joinCode ps = 0) := Lib.hid (by unfold joinCode; rw [hn1.out, if_neg h1, HAll.out, if_neg (by simp), HJA.out, if_neg h4])
          go_wp2_with fail
          go_ret2
          exact ⟨by unfold joinTxt; rw [HC.out, if_pos rfl, HJA.out]; rfl, HD.out⟩
end Go.Proofs.Ytlljmbaaabeioaa
