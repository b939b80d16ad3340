/- The law GaugeSorts: the walk. -/
import Derived.Test.YtfeldgkjgfjeeaaS
namespace Go.Proofs.Ytfeldgkjgfjeeaa
open Go.RowKit Fl

theorem FRow.below {w w' : World} {a : Option Addr} {n : Nat} {xs : List Nat} (h : FRow w a n xs) (hb : Below w.heap.size w w') : FRow w' a n xs :=
  ⟨h.1, h.2.1, fun j hj => by
    obtain ⟨b, h1, h2⟩ := h.2.2 j hj
    exact ⟨b, h1, (hb.cell (p := ⟨b, j, none⟩) (block_of_cell h2)).trans h2⟩⟩
theorem frow_row {w : World} {B n : Nat} {v : Value} {ys : List Nat} (h : w.ownsRow B 24 1 v n (ys.map fl)) (hy : ∀ y ∈ ys, y < 18446744073709551616) : ∃ a c, v = .slice a n c ∧ FRow w a n ys := by
  obtain ⟨hl, a, c, rfl, hc⟩ := row_cells h
  refine ⟨a, c, rfl, hl, hy, fun j hj => ?_⟩
  rcases hc with ⟨_, h0⟩ | ⟨g, h1, _, _, _, _, h2⟩
  · omega
  · refine ⟨g, h1, ?_⟩
    have := h2 j (by omega)
    rw [Nat.zero_add] at this
    rw [this, List.getD_eq_getElem?_getD, List.getElem?_eq_getElem hj]; rfl

def countN (ys : List Nat) (x : Nat) : Nat := ys.countP (fun y => likeB y x)
set_option maxHeartbeats 800000 in
theorem count_any {a : Option Addr} {n c x : Nat} {ys : List Nat} {w : World} (h : FRow w a n ys) (hn : n ≤ 1000) : Calls Try.prog 30 #[.slice a n c, .float .f64 x] w fun e w' => e = .returned (.int .i64 (countN ys x : Int)) ∧ w = w' := by
  have HF := Lib.hid h
  clear h
  go_enter Try.func30, Try.ntmps30
  go_wp2_with fail
  go_loop [5, 6] (fun s i => ∃ k q : Nat, k ≤ n ∧ i = .int .i64 k ∧ s = .int .i64 q ∧ q ≤ k ∧ Hid (q = (ys.take k).countP (fun y => likeB y x))) (fun _ i => n - (intOf i).toNat)
  case atStart => exact ⟨0, 0, Nat.zero_le _, rfl, rfl, Nat.le_refl _, Lib.hid rfl⟩
  case round =>
    obtain ⟨k, q, hk, rfl, rfl, hqk, HQ⟩ := hrel
    by_cases hlt : k < n
    · have hky : k < ys.length := by rw [HF.out.1]; exact hlt
      obtain ⟨b, rfl, hc⟩ := HF.out.2.2 k hky
      have HSn : Hid ((ys.take (k + 1)).countP (fun y => likeB y x) = q + if likeB ys[k] x then 1 else 0) := Lib.hid (by
        rw [List.take_succ_eq_append_getElem hky, List.countP_append, ← HQ.out]; simp [List.countP_cons])
      have HL := Lib.hid (fun w => like_any ys[k] x w)
      generalize ys[k] = y at *
      clear hky
      cases hl : likeB y x
      · rw [hl] at HL HSn
        go_wp2_with fail
        refine (HL.out _).mono ?_
        rintro e w1 ⟨rfl, rfl⟩
        go_wp2_with fail
        go_round
        case rel => exact ⟨k + 1, q, by omega, by go_num, rfl, by omega, Lib.hid (by rw [HSn.out]; simp)⟩
        case measure => simp [intOf]; omega
      · rw [hl] at HL HSn
        go_wp2_with fail
        refine (HL.out _).mono ?_
        rintro e w1 ⟨rfl, rfl⟩
        go_wp2_with fail
        go_round
        case rel => exact ⟨k + 1, q + 1, by omega, by go_num, by go_num, by omega, Lib.hid (by rw [HSn.out]; simp)⟩
        case measure => simp [intOf]; omega
    · obtain rfl : k = n := by omega
      have HV : Hid (countN ys x = q) := Lib.hid (by
        rw [HQ.out, List.take_of_length_le (by rw [HF.out.1]; exact Nat.le_refl _)]; rfl)
      go_wp2_with fail
      go_ret
      exact ⟨by rw [HV.out]; rfl, rfl⟩

theorem sorts_many (a : Option Addr) (len cap : Nat) (w : World) (h : 300 < len) :
    Calls Try.prog 8 #[.slice a len cap] w fun e w' => e = .returned (.bool true) ∧ Below w.heap.size w w' := by
  have L := fun w => Lib.hid (live_any w)
  go_enter Try.func8, Try.ntmps8
  go_wp2_with fail
  refine (L _).out.mono ?_
  rintro e w1 ⟨rfl, hd⟩
  have D := Lib.hid hd.below
  clear hd
  go_wp2_with fail
  go_ret
  exact ⟨rfl, D.out⟩

/-- what the loop of the law knows at a place -/
def AtS (a a1 a2 : Option Addr) (ns ys : List Nat) (w : World) (k : Nat) : Prop :=
  ∃ b off g1 g2, a = some ⟨b, off, none⟩ ∧ a1 = some ⟨g1, 0, none⟩ ∧ a2 = some ⟨g2, 0, none⟩ ∧ w.cell? ⟨b, off + k, none⟩ = some (.int .u64 ((ns.getD k 0 : Nat) : Int)) ∧ w.cell? ⟨g1, k, none⟩ = some (.float .f64 (ns.getD k 0)) ∧ w.cell? ⟨g2, k, none⟩ = some (.float .f64 (ys.getD k 0))

theorem getD_eq {ys : List Nat} {k : Nat} (h : k < ys.length) : ys.getD k 0 = ys[k] := by
  rw [List.getD_eq_getElem?_getD, List.getElem?_eq_getElem h]; rfl

set_option maxRecDepth 100000 in
set_option maxHeartbeats 4000000 in
theorem sorts_few (a : Option Addr) (len cap : Nat) (ns : List Nat) (w : World) (hr : NRow w.heap.size w a len ns) (h : len ≤ 300) :
    Calls Try.prog 8 #[.slice a len cap] w fun e w' => e = .returned (.bool true) ∧ Below w.heap.size w w' := by
  have L := fun w => Lib.hid (live_any w)
  have H1 := Lib.hid (list_any a len cap ns w hr (by omega))
  have HR := Lib.hid hr
  have HN := Lib.hid hr.1
  clear hr
  go_enter Try.func8, Try.ntmps8
  go_wp2_with fail
  refine H1.out.mono ?_
  rintro e w1 ⟨v1, rfl, hown1, hb1⟩
  obtain ⟨a1, c1, rfl, hf1⟩ := frow_row hown1 HR.out.2.1
  have F1 := Lib.hid hf1
  have B1 := Lib.hid hb1
  rw [HN.out] at hf1 ⊢
  have HS := Lib.hid (sorted_any a1 len c1 ns w1 hf1 (by omega))
  clear hown1 hf1 hb1 H1
  go_wp2_with fail
  refine HS.out.mono ?_
  rintro e w2 ⟨ys, v2, rfl, hown2, hyp, hyo, hb2⟩
  have hy64 : ∀ y ∈ ys, y < 18446744073709551616 := fun y hy => HR.out.2.1 y (hyp.mem_iff.1 hy)
  have HY64 := Lib.hid hy64
  obtain ⟨a2, c2, rfl, hf2⟩ := frow_row hown2 hy64
  have HYP := Lib.hid hyp
  have HYO := Lib.hid hyo
  have B2 := Lib.hid hb2
  rw [HN.out] at hf2 ⊢
  have F2 := Lib.hid hf2
  have HYL := Lib.hid hf2.1
  have F12 := Lib.hid (show FRow w2 a1 len ns from by have h := F1.out.below hb2; rwa [HN.out] at h)
  have B02 := Lib.hid (B1.out.trans (B2.out.mono B1.out.size))
  have HA : Hid (∀ k, k < len → AtS a a1 a2 ns ys w2 k) := Lib.hid (fun k hk => by
    rcases HR.out.2.2 with h0 | ⟨b, off, ha, hb, hc⟩
    · omega
    obtain ⟨g1, e1, x1⟩ := F12.out.2.2 k (by rw [HN.out]; exact hk)
    obtain ⟨g2, e2, x2⟩ := F2.out.2.2 k (by rw [HYL.out]; exact hk)
    exact ⟨b, off, g1, g2, ha, e1, e2, (B02.out.cell (p := ⟨b, off + k, none⟩) hb).trans (hc k hk), by rw [x1, getD_eq], by rw [x2, getD_eq]⟩)
  have HCnt : Hid (∀ x m, Calls Try.prog 30 #[.slice a2 len c2, .float .f64 x] (w2.drewN m) fun e w' => e = .returned (.int .i64 (countN ns x : Int)) ∧ w2.drewN m = w') := Lib.hid (fun x m => by
    have h := count_any (c := c2) (x := x) (w := w2.drewN m) F2.out (by omega)
    rw [show countN ys x = countN ns x from HYP.out.countP_eq _] at h
    exact h)
  have HCnt1 : Hid (∀ x m, Calls Try.prog 30 #[.slice a1 len c1, .float .f64 x] (w2.drewN m) fun e w' => e = .returned (.int .i64 (countN ns x : Int)) ∧ w2.drewN m = w') := Lib.hid (fun x m =>
    count_any (c := c1) (x := x) (w := w2.drewN m) F12.out (by omega))
  clear hown2 hyp hyo hb2 hy64 hf2 HS F1 F2 F12
  go_wp2_with fail
  go_loopw [5] (fun i wr => ∃ k : Nat, k ≤ len ∧ i = .int .i64 k ∧ Hid (Drawn w2 wr)) (fun i _ => len - (intOf i).toNat)
  case atStart => exact ⟨0, Nat.zero_le _, rfl, Lib.hid (Drawn.refl _)⟩
  case round =>
    obtain ⟨k, hk, rfl, HD⟩ := hrel
    by_cases hlt : k < len
    · obtain ⟨m0, hm0⟩ := HD.out
      have ht : (k : Int).toNat = k := rfl
      have hc2 : Hid (∀ x m, Calls Try.prog 30 #[.slice a2 len c2, .float .f64 x] (wr.drewN m) fun e w' => e = .returned (.int .i64 (countN ns x : Int)) ∧ wr.drewN m = w') := Lib.hid (fun x m => by
        rw [hm0, World.drewN_drewN]; exact HCnt.out x _)
      have hc1 : Hid (∀ x m, Calls Try.prog 30 #[.slice a1 len c1, .float .f64 x] (wr.drewN m) fun e w' => e = .returned (.int .i64 (countN ns x : Int)) ∧ wr.drewN m = w') := Lib.hid (fun x m => by
        rw [hm0, World.drewN_drewN]; exact HCnt1.out x _)
      obtain ⟨b, off, g1, g2, rfl, rfl, rfl, x1, x2, x3⟩ := HA.out k hlt
      have y1 : wr.cell? ⟨b, off + k, none⟩ = some (.int .u64 ((ns.getD k 0 : Nat) : Int)) := by rw [hm0]; exact x1
      have y2 : wr.cell? ⟨g1, k, none⟩ = some (.float .f64 (ns.getD k 0)) := by rw [hm0]; exact x2
      have y3 : wr.cell? ⟨g2, k, none⟩ = some (.float .f64 (ys.getD k 0)) := by rw [hm0]; exact x3
      by_cases hk0 : 0 < k
      · obtain ⟨kp, rfl⟩ : ∃ q, k = q + 1 := ⟨k - 1, by omega⟩
        have z3 : wr.cell? ⟨g2, kp, none⟩ = some (.float .f64 (ys.getD kp 0)) := by
          obtain ⟨_, _, _, g2', _, _, e3, _, _, x⟩ := HA.out kp (by omega)
          injection e3 with e3; injection e3 with e3 _ _
          subst e3
          rw [hm0]; exact x
        have hp1 : kp < ys.length := by rw [HYL.out]; omega
        have hp2 : kp + 1 < ys.length := by rw [HYL.out]; omega
        have hno := HYO.out kp (kp + 1) hp1 hp2 (by omega)
        have hb1 : ys.getD kp 0 < 18446744073709551616 := by rw [getD_eq hp1]; exact HY64.out _ (List.getElem_mem hp1)
        have hb2 : ys.getD (kp + 1) 0 < 18446744073709551616 := by rw [getD_eq hp2]; exact HY64.out _ (List.getElem_mem hp2)
        have hor := fun w => Lib.hid (order_any (ys.getD kp 0) (ys.getD (kp + 1) 0) hb1 hb2 w)
        have hle : ¬ 0 < cmpI (key (ys.getD kp 0)) (key (ys.getD (kp + 1) 0)) := by
          rw [getD_eq hp1, getD_eq hp2]
          unfold cmpI
          by_cases c : key ys[kp] < key ys[kp + 1]
          · rw [if_pos c]; omega
          · rw [if_neg c, if_neg hno]; omega
        have hwp : IntKind.i64.wrap (kp : Int) = (kp : Int) := by rw [IntKind.wrap_i64]; omega
        have hk00 : decide ((0 : Int) < (kp : Int) + 1) = true := decide_eq_true (by omega)
        have e0 : ((kp : Int) + 1).toNat = kp + 1 := by omega
        have p0 : (0 : Int) ≤ (kp : Int) + 1 := by omega
        have q1 : (kp : Int) + 1 < (len : Int) := by omega
        have q2 : (kp : Int) < (len : Int) := by omega
        clear x1 x2 x3 hm0 hno hb1 hb2 hp1 hp2
        generalize cmpI (key (ys.getD kp 0)) (key (ys.getD (kp + 1) 0)) = o at hor hle
        have hod : decide (0 < o) = false := decide_eq_false hle
        generalize ns.getD (kp + 1) 0 = x at *
        generalize ys.getD (kp + 1) 0 = y at *
        generalize ys.getD kp 0 = z at *
        have hof := fun w => Lib.hid (of_any x w)
        have hli := fun w => Lib.hid (like_refl x w)
        go_wp2_with fail
        go_quiet ((first | (go_at_call 12; exact quiet_left (hof _).out) | (go_at_call 9; exact quiet_left (hli _).out) | (go_at_call 15; exact quiet_left (hor _).out) | (go_at_call 30; first | with_reducible exact quiet_left (hc2.out _ _) | with_reducible exact quiet_left (hc1.out _ _))))
        all_goals (try go_wp2_with fail)
        all_goals go_roundw
        case rel => exact ⟨kp + 1 + 1, by omega, by go_num, Lib.hid (HD.out.trans ⟨_, rfl⟩)⟩
        case measure => simp [intOf]; omega
      · have hk00 : decide ((0 : Int) < (k : Int)) = false := decide_eq_false (by omega)
        clear x1 x2 x3 hm0
        generalize ns.getD k 0 = x at *
        generalize ys.getD k 0 = y at *
        have hof := fun w => Lib.hid (of_any x w)
        have hli := fun w => Lib.hid (like_refl x w)
        go_wp2_with fail
        go_quiet ((first | (go_at_call 12; exact quiet_left (hof _).out) | (go_at_call 9; exact quiet_left (hli _).out) | (go_at_call 30; first | with_reducible exact quiet_left (hc2.out _ _) | with_reducible exact quiet_left (hc1.out _ _))))
        all_goals (try go_wp2_with fail)
        all_goals go_roundw
        case rel => exact ⟨k + 1, by omega, by go_num, Lib.hid (HD.out.trans ⟨_, rfl⟩)⟩
        case measure => simp [intOf]; omega
    · obtain rfl : k = len := by omega
      go_wp2_with fail
      refine (L _).out.mono ?_
      rintro e w6 ⟨rfl, hd6⟩
      have B6 := Lib.hid (HD.out.below.trans (hd6.below.mono HD.out.below.size))
      clear hd6
      go_wp2_with fail
      go_ret
      exact ⟨rfl, B02.out.trans (B6.out.mono B02.out.size)⟩

theorem sorts_walk (a : Option Addr) (len cap : Nat) (zs : List Int) (w : World)
    (h : (a = none ∧ len = 0 ∧ cap = 0 ∧ zs = []) ∨ ∃ x, a = some x ∧ len ≤ cap ∧ cap ≤ maxLen ∧ zs.length = cap ∧ (∀ i, i < zs.length → w.cell? (x.add i) = some (.int .u64 (zs.getD i 0))) ∧ ∀ n ∈ zs, (Lit.int .u64 n).wf = true) :
    Calls Try.prog 8 #[.slice a len cap] w fun e w' => e = .returned (.bool true) ∧ Below w.heap.size w w' := by
  by_cases h1 : 300 < len
  · exact sorts_many a len cap w h1
  · exact sorts_few a len cap _ w (nrow_of h) (by omega)
end Go.Proofs.Ytfeldgkjgfjeeaa
