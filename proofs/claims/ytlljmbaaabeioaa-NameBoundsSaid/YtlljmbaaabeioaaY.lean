/- NameBounds: the walk. -/
import Derived.Test.YtlljmbaaabeioaaX
import Derived.Laws.OwnMore
import Derived.OwnWalk
import Derived.Laws.BytesArg
namespace Go.Proofs.Ytlljmbaaabeioaa
open Go.RowKit

/-- so many letters -/
def aas (n : Nat) : List UInt8 := List.replicate n 97
/-- the law's parts -/
def parF (i : Nat) : List UInt8 := aas (1 + i % 2)
def parL (k : Nat) : List (List UInt8) := (List.range k).map parF
theorem parL_len (k : Nat) : (parL k).length = k := by simp [parL]
theorem parL_succ (k : Nat) : parL (k + 1) = parL k ++ [parF k] := by simp [parL, List.range_succ]

theorem info5 : (Try.prog.info? 5).map (fun i => (i.zero, i.size, i.bytes)) = some (some (.int .u8 0), 1, 1) := by kernel_rfl

theorem fill_step (n k : Nat) (h : k < n) : (List.replicate k (Value.int .u8 97) ++ List.replicate (n - k) (Value.int .u8 0)).set k (.int .u8 97) = List.replicate (k + 1) (.int .u8 97) ++ List.replicate (n - (k + 1)) (Value.int .u8 0) := by
  rw [List.set_append_right _ _ (by simp)]
  obtain ⟨r, hr⟩ : ∃ r, n - k = r + 1 := ⟨n - k - 1, by omega⟩
  have hr2 : n - (k + 1) = r := by omega
  rw [hr, hr2]
  rw [List.replicate_succ' (n := k)]
  simp [List.replicate_succ (n := r)]

/-- a row of letters -/
def FillAt (w : World) (g n : Nat) : Prop := ∀ i, i < n → w.cell? ⟨g, i, none⟩ = some (.int .u8 97)
theorem FillAt.below {w w' : World} {g n : Nat} (h : FillAt w g n) (hb : Below w.heap.size w w') : FillAt w' g n := fun i hi => by
  rw [hb.cell (p := ⟨g, i, none⟩) (World.block_lt_of_cell? w _ (h i hi))]; exact h i hi
theorem fill_row {w : World} {base g n cap : Nat} (h : w.ownsRow base 5 1 (.slice (some ⟨g, 0, none⟩) n cap) n (List.replicate n (.int .u8 97))) : FillAt w g n := fun i hi => by
  rw [h.cellAt i (by omega)]
  simp [hi]
theorem conv_at {w : World} {g n : Nat} (h : FillAt w g n) (L c2 : Nat) (hL : L ≤ n) :
    (convert 39 9 (.slice (some ⟨g, 0, none⟩) L c2)).run Try.prog w = .ok (.string ⟨(aas L).toArray⟩) w := by
  have hc := run_convert_bytes_arg (P := Try.prog) w 39 5 Try.underlying39 Try.underlying5 g 0 L c2 (List.replicate L 97) (by simp) (fun i hi => by
    rw [Nat.zero_add, h i (by omega)]
    simp [hi]) 9 Try.underlying9
  rw [hc]
  simp [strOfNums, aas]

theorem parF_ok (i : Nat) : badB (parF i) = false ∧ (parF i).length ≤ 2 := by
  unfold parF
  rcases Nat.mod_two_eq_zero_or_one i with h | h <;> rw [h] <;> exact ⟨by decide, by decide⟩
theorem par_code (k : Nat) (hk : k ≤ 140) : joinCode (parL k) = if 128 < k then 3 else 0 := by
  have hany : (parL k).any badB = false := by
    rw [List.any_eq_false]; intro x hx
    obtain ⟨i, _, rfl⟩ := List.mem_map.1 hx
    rw [(parF_ok i).1]; simp
  have hl := join_len (parL k) 2 (fun p hp => by obtain ⟨i, _, rfl⟩ := List.mem_map.1 hp; exact (parF_ok i).2)
  rw [parL_len] at hl
  unfold joinCode
  rw [parL_len, hany, if_neg (show ¬ false = true by simp), if_neg (show ¬ 4096 < (joinP (parL k)).length by omega)]
theorem aas_slash (n : Nat) : (aas n).contains 47 = false ∧ (aas n).contains 0 = false := by
  unfold aas
  constructor <;> simp
theorem aas_len (n : Nat) : (aas n).length = n := by simp [aas]
theorem long_code (n : Nat) (h1 : 250 ≤ n) (h2 : n ≤ 260) : codeOf (120 :: 47 :: aas n) = if n ≤ 255 then 0 else 1 := by
  have hp : partsOf (120 :: 47 :: aas n) = [[120], aas n] := by
    rw [parts_keep (by simp) rfl]
    show [120] :: partsOf (aas n) = _
    have hne : aas n ≠ [] := by intro e; have := congrArg List.length e; rw [aas_len] at this; simp at this; omega
    have hd : aas n ≠ [46] := by intro e; have := congrArg List.length e; rw [aas_len] at this; simp at this; omega
    have h3 := not_mem_take (aas_slash n).1
    rw [parts_keep hne (by rw [h3.1]; unfold keepP; simp [hne, hd]), h3.1, h3.2, parts_nil]
  unfold codeOf
  rw [hp]
  have hc : (120 :: 47 :: aas n).contains 0 = false := by
    rw [List.contains_cons, List.contains_cons, (aas_slash n).2]; rfl
  have hl : ¬ 4096 < (120 :: 47 :: aas n).length := by simp [aas_len]; omega
  rw [if_neg hl, hc, if_neg (show ¬ false = true by simp)]
  by_cases h3 : n ≤ 255
  · have : ([[120], aas n] : List (List UInt8)).any (fun s => decide (255 < s.length)) = false := by simp [aas_len]; omega
    rw [this, if_pos h3]; rfl
  · have : ([[120], aas n] : List (List UInt8)).any (fun s => decide (255 < s.length)) = true := by simp [aas_len]; omega
    rw [this, if_neg h3]; rfl
theorem long_valid (n : Nat) (h1 : 250 ≤ n) : validB (aas n) = decide (n ≤ 255) := by
  have a1 : (aas n).isEmpty = false := by
    have : aas n ≠ [] := by intro e; have := congrArg List.length e; rw [aas_len] at this; simp at this; omega
    simpa using this
  have a2 : (aas n == [46]) = false := beq_eq_false_iff_ne.2 (by intro e; have := congrArg List.length e; rw [aas_len] at this; simp at this; omega)
  have a3 : (aas n == [46, 46]) = false := beq_eq_false_iff_ne.2 (by intro e; have := congrArg List.length e; rw [aas_len] at this; simp at this; omega)
  unfold validB
  rw [a1, a2, a3, (aas_slash n).1, (aas_slash n).2, aas_len]; simp
theorem below_app2 {N : Nat} {w wr w1 : World} {v : Value} {n : Nat} {xs : List Value} {tmp : Obj} (hr : wr.ownsRow (N + 1) 9 1 v n xs) (hb : Below N w wr) (hg : (wr.alloc tmp).grownBy w1 v.ownBlock) (hN : N + 1 ≤ wr.heap.size) : Below N w w1 :=
  hb.trans (((Below.refl N wr).alloc (by omega) tmp).grown hg (by simp; omega) (fun j ej => by have := (hr.lt j ej).1; omega))
theorem lat_row {w' : World} {N : Nat} {v : Value} {ps : List (List UInt8)} {n : Nat} (hn : ps.length = n) (h : w'.ownsRow N 9 1 v n (ps.map str)) : ∃ a c, v = .slice a n c ∧ LAt w' a n c ps ∧ n ≤ c := by
  subst hn
  have hS := SAt.row h
  obtain ⟨a, c, rfl, hc⟩ := hS
  refine ⟨a, c, rfl, ⟨rfl, ?_, hc⟩, ?_⟩
  · intro ha
    rcases h.2 with ⟨h1, h2⟩ | ⟨g, cap, cur, h1, _⟩
    · injection h1 with _ h3 h4; exact ⟨h3, h4⟩
    · rw [ha] at h1; injection h1 with h3; cases h3
  · rcases h.2 with ⟨h1, h2⟩ | ⟨g, cap, cur, h1, _, _, h3, _⟩
    · omega
    · injection h1 with _ _ h5; omega

set_option maxRecDepth 100000 in
set_option maxHeartbeats 4000000 in
theorem bounds_walk (n k : Int) (m : Int) (w : World) (hm : w.cell? ⟨0, 0, none⟩ = some (.int .i64 m)) :
    Calls Try.prog 6 #[.int .i64 n, .int .i64 k] w fun e w' => e = .returned (.bool true) ∧ Below w.heap.size w w' := by
  have HM := Lib.hid hm
  have hN : 0 < w.heap.size := World.block_lt_of_cell? w ⟨0, 0, none⟩ hm
  have HLive : Hid (∀ W, Below w.heap.size w W → Calls Try.prog 8 #[] W fun e w' => e = .returned (.bool true) ∧ Below w.heap.size w w') := Lib.hid (fun W hb =>
    (live_any m W ((hb.cell (p := ⟨0, 0, none⟩) hN).trans hm)).mono fun e w' ⟨he, hb'⟩ => ⟨he, hb.trans (hb'.mono hb.size)⟩)
  clear hm
  by_cases h1 : n < 250
  · go_enter Try.func6, Try.ntmps6
    go_wp2_with fail
    refine (HLive.out _ (Below.refl _ _)).mono ?_
    rintro e w5 ⟨rfl, hb5⟩
    have HB5 := Lib.hid hb5
    clear hb5
    go_wp2_with fail
    go_ret
    exact ⟨rfl, HB5.out⟩
  · by_cases h2 : 260 < n
    · go_enter Try.func6, Try.ntmps6
      go_wp2_with fail
      refine (HLive.out _ (Below.refl _ _)).mono ?_
      rintro e w5 ⟨rfl, hb5⟩
      have HB5 := Lib.hid hb5
      clear hb5
      go_wp2_with fail
      go_ret
      exact ⟨rfl, HB5.out⟩
    · by_cases h3 : k < 1
      · go_enter Try.func6, Try.ntmps6
        go_wp2_with fail
        refine (HLive.out _ (Below.refl _ _)).mono ?_
        rintro e w5 ⟨rfl, hb5⟩
        have HB5 := Lib.hid hb5
        clear hb5
        go_wp2_with fail
        go_ret
        exact ⟨rfl, HB5.out⟩
      · by_cases h4 : 140 < k
        · go_enter Try.func6, Try.ntmps6
          go_wp2_with fail
          refine (HLive.out _ (Below.refl _ _)).mono ?_
          rintro e w5 ⟨rfl, hb5⟩
          have HB5 := Lib.hid hb5
          clear hb5
          go_wp2_with fail
          go_ret
          exact ⟨rfl, HB5.out⟩
        · obtain ⟨n, rfl⟩ : ∃ j : Nat, n = j := ⟨n.toNat, by omega⟩
          obtain ⟨k, rfl⟩ : ∃ j : Nat, k = j := ⟨k.toNat, by omega⟩
          obtain ⟨i5, hi5, h5z0, h5z1, h5z2⟩ := info_parts info5
          obtain ⟨i9, hi9, h9z0, h9z1, h9z2⟩ := info_parts info9
          have b5 : i5.bytes * n ≤ 281474976710656 := by rw [h5z2]; omega
          go_enter Try.func6, Try.ntmps6
          go_wp2_with ((refine wpList_make_full (o := ⟨some 31, _, _, _, _, _⟩) _ rfl (.tmp 30) (.tmp 30) 39 rfl w.heap.size 5 i5 (.int .u8 0) 1 Try.underlying39 hi5 h5z0 h5z1 .i64 .i64 _ _ n rfl rfl rfl rfl b5 (by unfold maxLen; omega) (Nat.le_refl _) ?_; intro w1 hown hgrow; have HO := Lib.hid hown; have HG := Lib.hid hgrow; clear hown hgrow))
          have HO0 : Hid (w1.ownsRow w.heap.size 5 1 (.slice (some ⟨w.heap.size, 0, none⟩) n n) n (List.replicate 0 (Value.int .u8 97) ++ List.replicate (n - 0) (Value.int .u8 0))) := Lib.hid (by
            have h := HO.out
            rw [show (Value.int .u8 0).cells = #[.int .u8 0] from rfl, toList_madeCells_one, Nat.mul_one] at h
            exact h)
          have HB0 : Hid (Below w.heap.size w w1) := Lib.hid ((Below.refl _ _).grown HG.out (Nat.le_refl _) (fun j ej => by cases ej))
          clear HO HG
          go_loopg [6] n (fun g i wr => ∃ j : Nat, j + g = n ∧ i = .int .i64 j ∧ Hid (wr.ownsRow w.heap.size 5 1 (.slice (some ⟨w.heap.size, 0, none⟩) n n) n (List.replicate j (Value.int .u8 97) ++ List.replicate (n - j) (Value.int .u8 0))) ∧ Hid (Below w.heap.size w wr))
          case atStart => exact ⟨0, by omega, rfl, HO0, HB0⟩
          case round =>
            obtain ⟨j, hj, rfl, HO, HB⟩ := hrel
            clear HO0 HB0
            by_cases hlt : j < n
            · have hc := HO.out.cellAt j (by omega)
              have hf := HO.out.frozenAt j
              have hc2 : wr.cell? ⟨w.heap.size, j, none⟩ = some (Value.int .u8 0) := by
                rw [hc, List.getElem?_append_right (by simp)]
                simp [show 0 < n - j by omega]
              clear hc
              have HS := Lib.hid (HO.out.stored j (.int .u8 97))
              go_wp2_with fail
              go_roundg (n - (j + 1))
              case measure => omega
              case rel => exact ⟨j + 1, by omega, by go_num, Lib.hid (by have h := HS.out.1; rwa [fill_step n j hlt] at h), Lib.hid (HB.out.setCell (p := ⟨w.heap.size, j, none⟩) (Nat.le_refl _) _)⟩
            · obtain rfl : j = n := by omega
              have HO1 : Hid (wr.ownsRow w.heap.size 5 1 (.slice (some ⟨w.heap.size, 0, none⟩) j j) j (List.replicate j (Value.int .u8 97))) := Lib.hid (by
                have h := HO.out
                rwa [Nat.sub_self, List.replicate_zero, List.append_nil] at h)
              have hz1 : w.heap.size + 1 ≤ wr.heap.size := (HO1.out.lt w.heap.size rfl).2
              clear HO
              go_wp2_with fail
              go_loopg [7, 8] k (fun g l i wr2 => ∃ q : Nat, q + g = k ∧ i = .int .i64 q ∧ w.heap.size + 1 ≤ wr2.heap.size ∧ Hid (wr2.ownsRow w.heap.size 5 1 (.slice (some ⟨w.heap.size, 0, none⟩) j j) j (List.replicate j (Value.int .u8 97))) ∧ Hid (wr2.ownsRow (w.heap.size + 1) 9 1 l q ((parL q).map str)) ∧ Hid (Below w.heap.size w wr2))
              case atStart => exact ⟨0, by omega, rfl, hz1, HO1, Lib.hid (World.ownsRow_nil _ _ _ _), HB⟩
              case round =>
                obtain ⟨q, hq, rfl, hz2, HO2, HR, HB2⟩ := hrel
                clear HO1 HB hz1
                have HF := Lib.hid (fill_row HO2.out)
                by_cases hlt2 : q < k
                · have hcv := conv_at HF.out (1 + q % 2) j (by omega)
                  go_wp2_with ((refine wpList_append_own (o := ⟨some 53, _, _, _, _, _⟩) _ rfl (.tmp 45) (.tmp 52) 22 rfl (w.heap.size + 1) 9 i9 (.string ⟨#[]⟩) 1 16 Try.underlying22 hi9 h9z0 h9z1 h9z2 rfl (by decide) _ q ((parL q).map str) rfl (HR.out.alloc _) ⟨wr.heap.size, 0, none⟩ 1 1 [.string { data := (aas (1 + q % 2)).toArray }] rfl rfl (cell_one_new _ _ _) (by simp [Value.oneCell']) (by unfold maxLen; omega) (by omega) (by simp; omega) ?_; intro v9 w9 hown9 hgrow9 _; have HR9 := Lib.hid hown9; have HG9 := Lib.hid hgrow9; clear hown9 hgrow9))
                  go_roundg (k - (q + 1))
                  case measure => omega
                  case rel => exact ⟨q + 1, by omega, by go_num, by have := HG9.out.size; simp at this; omega, Lib.hid ((HO2.out.alloc _).kept HG9.out (.inr (fun e => by have h9 : w.heap.size + 1 ≤ w.heap.size := (HR.out.lt _ e.symm).1; omega))), Lib.hid (by rw [parL_succ, List.map_append]; exact HR9.out), Lib.hid (below_app2 HR.out HB2.out HG9.out hz2)⟩
                · obtain rfl : q = k := by omega
                  have HFW := HF
                  have hrow := HR.out
                  obtain ⟨a7, c7, rfl, hlat, hqc⟩ := lat_row (parL_len q) hrow
                  have HLat := Lib.hid hlat
                  clear hrow hlat HR HO2 hlt2
                  have HS2 : Hid (∀ p ∈ parL q, p.length ≤ 5000) := Lib.hid (fun p hp => by obtain ⟨i, _, rfl⟩ := List.mem_map.1 hp; have := (parF_ok i).2; omega)
                  have HJn := Lib.hid (njoin_any HLat.out hqc (by omega) HS2.out)
                  have HVl := Lib.hid (valid_any (aas j))
                  rw [long_valid j (by omega)] at HVl
                  have HSx : Hid (∀ W, Below w.heap.size w W → Calls Try.prog 12 #[str (120 :: 47 :: aas j)] W fun e w' => ∃ v, e = .returned (.tuple #[v, .int .i64 (if j ≤ 255 then 0 else 1)]) ∧ Below W.heap.size W w') := Lib.hid (fun W hb =>
                    (split_any (120 :: 47 :: aas j) m W (by simp [aas_len]; omega) ((hb.cell (p := ⟨0, 0, none⟩) hN).trans HM.out)).mono fun e w' ⟨v, he, hr, hb'⟩ => by
                      rw [long_code j (by omega) (by omega)] at he
                      exact ⟨v, he, hb'⟩)
                  have hadd : ({ data := #[120, 47] } : ByteArray) ++ ({ data := (aas j).toArray } : ByteArray) = { data := (120 :: 47 :: aas j).toArray } := str_add [120, 47] (aas j)
                  have haj : (aas j).length ≤ 260 := by rw [aas_len]; omega
                  by_cases h5 : q ≤ 128
                  · have hjc : joinCode (parL q) = 0 := by rw [par_code q (by omega), if_neg (by omega)]
                    have hbk := join_back hjc
                    have hjt : joinTxt (parL q) = joinP (parL q) := by unfold joinTxt; rw [hjc]; rfl
                    have hjl : (joinP (parL q)).length ≤ 1000000 := by
                      have := join_len (parL q) 2 (fun p hp => by obtain ⟨i, _, rfl⟩ := List.mem_map.1 hp; exact (parF_ok i).2)
                      rw [parL_len] at this; omega
                    have HSp : Hid (∀ W, Below w.heap.size w W → Calls Try.prog 12 #[str (joinP (parL q))] W fun e w' => ∃ v, e = .returned (.tuple #[v, .int .i64 0]) ∧ SAt w' v (parL q) ∧ Below W.heap.size W w') := Lib.hid (fun W hb =>
                      (split_any (joinP (parL q)) m W hjl ((hb.cell (p := ⟨0, 0, none⟩) hN).trans HM.out)).mono fun e w' ⟨v, he, hr, hb'⟩ => by
                        rw [hbk.1] at he
                        rw [hbk.2] at hr
                        exact ⟨v, he, SAt.row hr, hb'⟩)
                    rw [hjc, hjt] at HJn
                    clear hjc hjt hbk hjl HS2
                    have hpl := parL_len q
                    generalize joinP (parL q) = jp at *
                    have HPL := Lib.hid hpl
                    clear hpl
                    unfold str at HJn HSp HSx HVl
                    by_cases h6 : j ≤ 255
                    · rw [decide_eq_true h6] at HVl
                      rw [if_pos h6] at HSx
                      go_wp2_with fail
                      refine HJn.out.mono ?_
                      rintro e w3 ⟨rfl, hb3⟩
                      have HB3 := Lib.hid (HB2.out.trans (hb3.mono HB2.out.size))
                      have HF3 := Lib.hid (HF.out.below hb3)
                      have HLat3 := Lib.hid (HLat.out.sat.below hb3)
                      clear hb3
                      go_wp2_with fail
                      refine (HSp.out _ HB3.out).mono ?_
                      rintro e w4 ⟨v4, rfl, hs4, hb4⟩
                      have HB4a := Lib.hid (HB3.out.trans (hb4.mono HB3.out.size))
                      have HF4a := Lib.hid (HF3.out.below hb4)
                      have HLat4 := Lib.hid (HLat3.out.below hb4)
                      have HS4 := Lib.hid hs4
                      have hlen4 : (parL q).length ≤ 1000000 := by rw [parL_len]; omega
                      clear hb4 hs4
                      obtain ⟨a4, c4, rfl, -⟩ := HS4.out
                      go_wp2_with (go_at_call 14; refine (num_any _ _).mono ?_; rintro e w9 ⟨rfl, rfl⟩)
                      refine (same_any HLat4.out HS4.out hlen4).mono ?_
                      rintro e w4b ⟨rfl, n4, hw4⟩
                      have HB4 := Lib.hid (show Below w.heap.size w w4b from hw4 ▸ below_drewN HB4a.out n4)
                      have HF4 := Lib.hid (show FillAt w4b w.heap.size j from hw4 ▸ HF4a.out)
                      clear hw4
                      rw [decide_eq_true (rfl : parL q = parL q)]
                      have hcv := conv_at HF4.out j j (Nat.le_refl _)
                      go_wp2_with (go_at_call 14; refine (num_any _ _).mono ?_; rintro e w9 ⟨rfl, rfl⟩)
                      refine (HSx.out _ HB4.out).mono ?_
                      rintro e w5 ⟨v5, rfl, hb5⟩
                      have HB5 := Lib.hid (HB4.out.trans (hb5.mono HB4.out.size))
                      have HF5 := Lib.hid (HF4.out.below hb5)
                      clear hb5 hcv
                      have hcv := conv_at HF5.out j j (Nat.le_refl _)
                      go_wp2_with fail
                      refine (HVl.out _).mono ?_
                      rintro e w6 ⟨rfl, rfl⟩
                      go_wp2_with (go_at_call 14; refine (num_any _ _).mono ?_; rintro e w9 ⟨rfl, rfl⟩)
                      refine (HLive.out _ HB5.out).mono ?_
                      rintro e w7 ⟨rfl, hb7⟩
                      have HB7 := Lib.hid hb7
                      clear hb7
                      go_wp2_with fail
                      go_ret
                      exact ⟨rfl, HB7.out⟩
                    · have hd6 : decide ((j : Int) ≤ 255) = false := decide_eq_false (by omega)
                      rw [decide_eq_false h6] at HVl
                      rw [if_neg h6] at HSx
                      go_wp2_with fail
                      refine HJn.out.mono ?_
                      rintro e w3 ⟨rfl, hb3⟩
                      have HB3 := Lib.hid (HB2.out.trans (hb3.mono HB2.out.size))
                      have HF3 := Lib.hid (HF.out.below hb3)
                      have HLat3 := Lib.hid (HLat.out.sat.below hb3)
                      clear hb3
                      go_wp2_with fail
                      refine (HSp.out _ HB3.out).mono ?_
                      rintro e w4 ⟨v4, rfl, hs4, hb4⟩
                      have HB4a := Lib.hid (HB3.out.trans (hb4.mono HB3.out.size))
                      have HF4a := Lib.hid (HF3.out.below hb4)
                      have HLat4 := Lib.hid (HLat3.out.below hb4)
                      have HS4 := Lib.hid hs4
                      have hlen4 : (parL q).length ≤ 1000000 := by rw [parL_len]; omega
                      clear hb4 hs4
                      obtain ⟨a4, c4, rfl, -⟩ := HS4.out
                      go_wp2_with (go_at_call 14; refine (num_any _ _).mono ?_; rintro e w9 ⟨rfl, rfl⟩)
                      refine (same_any HLat4.out HS4.out hlen4).mono ?_
                      rintro e w4b ⟨rfl, n4, hw4⟩
                      have HB4 := Lib.hid (show Below w.heap.size w w4b from hw4 ▸ below_drewN HB4a.out n4)
                      have HF4 := Lib.hid (show FillAt w4b w.heap.size j from hw4 ▸ HF4a.out)
                      clear hw4
                      rw [decide_eq_true (rfl : parL q = parL q)]
                      have hcv := conv_at HF4.out j j (Nat.le_refl _)
                      go_wp2_with (go_at_call 14; refine (num_any _ _).mono ?_; rintro e w9 ⟨rfl, rfl⟩)
                      refine (HSx.out _ HB4.out).mono ?_
                      rintro e w5 ⟨v5, rfl, hb5⟩
                      have HB5 := Lib.hid (HB4.out.trans (hb5.mono HB4.out.size))
                      have HF5 := Lib.hid (HF4.out.below hb5)
                      clear hb5 hcv
                      have hcv := conv_at HF5.out j j (Nat.le_refl _)
                      go_wp2_with fail
                      refine (HVl.out _).mono ?_
                      rintro e w6 ⟨rfl, rfl⟩
                      go_wp2_with (go_at_call 14; refine (num_any _ _).mono ?_; rintro e w9 ⟨rfl, rfl⟩)
                      refine (HLive.out _ HB5.out).mono ?_
                      rintro e w7 ⟨rfl, hb7⟩
                      have HB7 := Lib.hid hb7
                      clear hb7
                      go_wp2_with fail
                      go_ret
                      exact ⟨rfl, HB7.out⟩
                  · have hjc : joinCode (parL q) = 3 := by rw [par_code q (by omega), if_pos (by omega)]
                    have hjt : joinTxt (parL q) = [] := by unfold joinTxt; rw [hjc]; rfl
                    have HSp : Hid (∀ W, Below w.heap.size w W → Calls Try.prog 12 #[str []] W fun e w' => ∃ v, e = .returned (.tuple #[v, .int .i64 (codeOf [])]) ∧ Below W.heap.size W w') := Lib.hid (fun W hb =>
                      (split_any [] m W (by simp) ((hb.cell (p := ⟨0, 0, none⟩) hN).trans HM.out)).mono fun e w' ⟨v, he, hr, hb'⟩ => ⟨v, he, hb'⟩)
                    rw [hjc, hjt] at HJn
                    clear hjc hjt HS2
                    generalize codeOf [] = cc at *
                    unfold str at HJn HSp HSx HVl
                    by_cases h6 : j ≤ 255
                    · rw [decide_eq_true h6] at HVl
                      rw [if_pos h6] at HSx
                      go_wp2_with fail
                      refine HJn.out.mono ?_
                      rintro e w3 ⟨rfl, hb3⟩
                      have HB3 := Lib.hid (HB2.out.trans (hb3.mono HB2.out.size))
                      have HF3 := Lib.hid (HF.out.below hb3)
                      have HLat3 := Lib.hid (HLat.out.sat.below hb3)
                      clear hb3
                      go_wp2_with fail
                      refine (HSp.out _ HB3.out).mono ?_
                      rintro e w4 ⟨v4, rfl, hb4⟩
                      have HB4 := Lib.hid (HB3.out.trans (hb4.mono HB3.out.size))
                      have HF4 := Lib.hid (HF3.out.below hb4)
                      clear hb4
                      have hcv := conv_at HF4.out j j (Nat.le_refl _)
                      go_wp2_with (go_at_call 14; refine (num_any _ _).mono ?_; rintro e w9 ⟨rfl, rfl⟩)
                      refine (HSx.out _ HB4.out).mono ?_
                      rintro e w5 ⟨v5, rfl, hb5⟩
                      have HB5 := Lib.hid (HB4.out.trans (hb5.mono HB4.out.size))
                      have HF5 := Lib.hid (HF4.out.below hb5)
                      clear hb5 hcv
                      have hcv := conv_at HF5.out j j (Nat.le_refl _)
                      go_wp2_with fail
                      refine (HVl.out _).mono ?_
                      rintro e w6 ⟨rfl, rfl⟩
                      go_wp2_with (go_at_call 14; refine (num_any _ _).mono ?_; rintro e w9 ⟨rfl, rfl⟩)
                      refine (HLive.out _ HB5.out).mono ?_
                      rintro e w7 ⟨rfl, hb7⟩
                      have HB7 := Lib.hid hb7
                      clear hb7
                      go_wp2_with fail
                      go_ret
                      exact ⟨rfl, HB7.out⟩
                    · have hd6 : decide ((j : Int) ≤ 255) = false := decide_eq_false (by omega)
                      rw [decide_eq_false h6] at HVl
                      rw [if_neg h6] at HSx
                      go_wp2_with fail
                      refine HJn.out.mono ?_
                      rintro e w3 ⟨rfl, hb3⟩
                      have HB3 := Lib.hid (HB2.out.trans (hb3.mono HB2.out.size))
                      have HF3 := Lib.hid (HF.out.below hb3)
                      have HLat3 := Lib.hid (HLat.out.sat.below hb3)
                      clear hb3
                      go_wp2_with fail
                      refine (HSp.out _ HB3.out).mono ?_
                      rintro e w4 ⟨v4, rfl, hb4⟩
                      have HB4 := Lib.hid (HB3.out.trans (hb4.mono HB3.out.size))
                      have HF4 := Lib.hid (HF3.out.below hb4)
                      clear hb4
                      have hcv := conv_at HF4.out j j (Nat.le_refl _)
                      go_wp2_with (go_at_call 14; refine (num_any _ _).mono ?_; rintro e w9 ⟨rfl, rfl⟩)
                      refine (HSx.out _ HB4.out).mono ?_
                      rintro e w5 ⟨v5, rfl, hb5⟩
                      have HB5 := Lib.hid (HB4.out.trans (hb5.mono HB4.out.size))
                      have HF5 := Lib.hid (HF4.out.below hb5)
                      clear hb5 hcv
                      have hcv := conv_at HF5.out j j (Nat.le_refl _)
                      go_wp2_with fail
                      refine (HVl.out _).mono ?_
                      rintro e w6 ⟨rfl, rfl⟩
                      go_wp2_with (go_at_call 14; refine (num_any _ _).mono ?_; rintro e w9 ⟨rfl, rfl⟩)
                      refine (HLive.out _ HB5.out).mono ?_
                      rintro e w7 ⟨rfl, hb7⟩
                      have HB7 := Lib.hid hb7
                      clear hb7
                      go_wp2_with fail
                      go_ret
                      exact ⟨rfl, HB7.out⟩
end Go.Proofs.Ytlljmbaaabeioaa
