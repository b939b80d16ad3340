/- The walk of the law GaugeMeans. -/
import Derived.Test.YtfeldgkjgfjeeaaN
import Derived.Deep.QuietTactic
import Derived.BigQuiet
namespace Go.Proofs.Ytfeldgkjgfjeeaa
open Go.RowKit Fl

theorem block_of_cell {w : World} {b off : Nat} {v : Value} (h : w.cell? ⟨b, off, none⟩ = some v) : b < w.heap.size := by
  cases hb : w.heap[b]? with
  | none => simp [World.cell?, hb] at h
  | some o => exact (Array.getElem?_eq_some_iff.1 hb).1

theorem add_row (g j : Nat) : (⟨g, 0, none⟩ : Addr).add j = ⟨g, 0 + j, none⟩ := by
  cases j <;> simp [Addr.add]

theorem row_cells {w : World} {B n : Nat} {v : Value} {ns : List Nat} (h : w.ownsRow B 24 1 v n (ns.map fl)) :
    ns.length = n ∧ ∃ a c, v = .slice a n c ∧ ((a = none ∧ n = 0) ∨ ∃ g, a = some ⟨g, 0, none⟩ ∧ B ≤ g ∧ g < w.heap.size ∧ n ≤ c ∧ c ≤ maxLen ∧ ∀ j, j < n → w.cell? ⟨g, 0 + j, none⟩ = some (.float .f64 (ns.getD j 0))) := by
  have hl : ns.length = n := by have := h.1; simpa using this
  refine ⟨hl, ?_⟩
  have h0 := h
  rcases h.2 with ⟨rfl, rfl⟩ | ⟨g, cap, cur, rfl, hg, hh, hn, hm, _, _⟩
  · exact ⟨none, 0, rfl, .inl ⟨rfl, rfl⟩⟩
  · refine ⟨some ⟨g, 0, none⟩, cap, rfl, .inr ⟨g, rfl, hg, (Array.getElem?_eq_some_iff.1 hh).1, hn, hm, fun j hj => ?_⟩⟩
    have := h0.cells (g := g) rfl j (fl (ns.getD j 0)) (by rw [List.getElem?_map, List.getElem?_eq_getElem (by omega)]; simp [List.getElem?_eq_getElem (show j < ns.length by omega)])
    rwa [add_row] at this

theorem NRow.below {B : Nat} {w w' : World} {a : Option Addr} {len : Nat} {ns : List Nat} (h : NRow B w a len ns) (hb : Below B w w') : NRow B w' a len ns := by
  obtain ⟨h1, h2, h3⟩ := h
  refine ⟨h1, h2, ?_⟩
  rcases h3 with h3 | ⟨b, off, ha, hbb, hc⟩
  · exact .inl h3
  · exact .inr ⟨b, off, ha, hbb, fun j hj => (hb.cell (by exact hbb)).trans (hc j hj)⟩
theorem NRow.mono {B B' : Nat} {w : World} {a : Option Addr} {len : Nat} {ns : List Nat} (h : NRow B w a len ns) (hb : B ≤ B') : NRow B' w a len ns := by
  obtain ⟨h1, h2, h3⟩ := h
  refine ⟨h1, h2, ?_⟩
  rcases h3 with h3 | ⟨b, off, ha, hbb, hc⟩
  · exact .inl h3
  · exact .inr ⟨b, off, ha, by omega, hc⟩
theorem NRow.lt {B : Nat} {w : World} {a : Option Addr} {len : Nat} {ns : List Nat} (h : NRow B w a len ns) (j : Nat) (hj : j < len) : ns.getD j 0 < 18446744073709551616 := by
  have h1 := h.1
  exact h.2.1 _ (by rw [List.getD_eq_getElem?_getD, List.getElem?_eq_getElem (show j < ns.length by omega)]; exact List.getElem_mem _)

set_option maxHeartbeats 400000 in
theorem means_many (a : Option Addr) (len cap : Nat) (w : World) (h : 1000 < len) :
    Calls Try.prog 6 #[.slice a len cap] w fun e w' => e = .returned (.bool true) ∧ Below w.heap.size w w' := by
  have L := fun w => Lib.hid (live_any w)
  go_enter Try.func6, Try.ntmps6
  go_wp2_with fail
  refine (L _).out.mono ?_
  rintro e w1 ⟨rfl, hd⟩
  have D := Lib.hid hd.below
  clear hd
  go_wp2_with fail
  go_ret
  exact ⟨rfl, D.out⟩

theorem mean_row {a : Option Addr} {n c B : Nat} {ns : List Nat} {w w' : World} (hb : Below B w w') (hn : ns.length = n) (hm : n ≤ 1000) (h0 : ∀ j, j < n → ns.getD j 0 < 18446744073709551616)
    (h : (a = none ∧ n = 0) ∨ ∃ g, a = some ⟨g, 0, none⟩ ∧ g < B ∧ n ≤ c ∧ c ≤ maxLen ∧ ∀ j, j < n → w.cell? ⟨g, 0 + j, none⟩ = some (.float .f64 (ns.getD j 0))) :
    Calls Try.prog 21 #[.slice a n c] w' (SomeFloat (if n = 0 then nanO else meanO ns) w') ∧ Calls Try.prog 22 #[.slice a n c] w' (SomeFloat (if n = 0 then nanO else meanO ns) w') := by
  by_cases hz : n = 0
  · rw [if_pos hz]
    obtain rfl := hz
    exact ⟨mean_none a c w', rmean_none a c w'⟩
  · rw [if_neg hz]
    rcases h with ⟨_, h⟩ | ⟨g, rfl, hg, hc1, hc2, hc⟩
    · exact absurd h hz
    · have hc' : ∀ j, j < n → w'.cell? ⟨g, 0 + j, none⟩ = some (.float .f64 (ns.getD j 0)) := fun j hj => (hb.cell (by exact hg)).trans (hc j hj)
      exact ⟨mean_any g 0 n c ns w' hn (by omega) hm hc1 hc2 (h0 0 (by omega)) hc', rmean_any g 0 n c ns w' hn (by omega) hm (h0 0 (by omega)) hc'⟩

/-- what the loop of the law knows at each place -/
def At (a a1 : Option Addr) (B len : Nat) (ns : List Nat) (w : World) : Prop :=
  ∀ k, k < len → ∃ b off g, a = some ⟨b, off, none⟩ ∧ a1 = some ⟨g, 0, none⟩ ∧ b < B ∧ g < B ∧ w.cell? ⟨b, off + k, none⟩ = some (.int .u64 ((ns.getD k 0 : Nat) : Int)) ∧ w.cell? ⟨g, 0 + k, none⟩ = some (.float .f64 (ns.getD k 0))

theorem quiet_left {P : Program} {f : FuncId} {args : Array Value} {w : World} {n : Nat} {v : Value}
    (h : Calls P f args (w.drewN n) fun e w' => e = .returned v ∧ w.drewN n = w') : Calls P f args (w.drewN n) fun e w'' => e = .returned v ∧ ∃ m, w'' = w.drewN m :=
  h.mono fun _ _ ⟨he, hm⟩ => ⟨he, n, hm.symm⟩

theorem like_refl (x : Nat) (w : World) : Calls Try.prog 9 #[.float .f64 x, .float .f64 x] w fun e w' => e = .returned (.bool true) ∧ w = w' := by
  have h := like_any x x w
  rwa [likeB_of rfl] at h

set_option maxHeartbeats 400000 in
theorem means_few (a : Option Addr) (len cap : Nat) (ns : List Nat) (w : World) (hr : NRow w.heap.size w a len ns) (h : len ≤ 1000) :
    Calls Try.prog 6 #[.slice a len cap] w fun e w' => e = .returned (.bool true) ∧ Below w.heap.size w w' := by
  have L := fun w => Lib.hid (live_any w)
  have H1 := Lib.hid (list_any a len cap ns w hr h)
  have HR := Lib.hid hr
  have HN := Lib.hid hr.1
  obtain ⟨mo, hmo⟩ : ∃ mo, mo = (if len = 0 then nanO else meanO ns) := ⟨_, rfl⟩
  have HMO := Lib.hid hmo
  clear hr hmo
  go_enter Try.func6, Try.ntmps6
  go_wp2_with fail
  refine H1.out.mono ?_
  rintro e w1 ⟨v1, rfl, hown1, hb1⟩
  obtain ⟨hl1, a1, c1, rfl, hc1⟩ := row_cells hown1
  rw [HN.out] at hc1 ⊢
  have M1 := Lib.hid (mean_row (Below.refl w1.heap.size w1) HN.out h HR.out.lt (by rcases hc1 with h | ⟨g, e1, e2, e3, e4⟩; exact .inl h; exact .inr ⟨g, e1, e3, e4⟩)).1
  rw [← HMO.out] at M1
  have HC1 := Lib.hid hc1
  have B1 := Lib.hid hb1
  clear hc1 hown1 hl1 hb1
  go_wp2_with fail
  refine M1.out.mono ?_
  rintro e w2 ⟨r1, rfl, hr1, hd1⟩
  have R1 := Lib.hid hr1
  have B2 := Lib.hid hd1.below
  have H2 := Lib.hid (list_any a len cap ns w2 (((HR.out.below B1.out).below (B2.out.mono (B1.out.size))).mono (Nat.le_trans B1.out.size B2.out.size)) h)
  clear hr1 hd1
  go_wp2_with fail
  refine H2.out.mono ?_
  rintro e w3 ⟨v3, rfl, hown3, hb3⟩
  obtain ⟨hl3, a3, c3, rfl, hc3⟩ := row_cells hown3
  rw [HN.out] at hc3 ⊢
  have M3 := Lib.hid (mean_row (Below.refl w3.heap.size w3) HN.out h HR.out.lt (by rcases hc3 with h | ⟨g, e1, e2, e3, e4⟩; exact .inl h; exact .inr ⟨g, e1, e3, e4⟩)).2
  rw [← HMO.out] at M3
  have B3 := Lib.hid hb3
  clear hc3 hown3 hl3 hb3
  go_wp2_with fail
  refine M3.out.mono ?_
  rintro e w4 ⟨r3, rfl, hr3, hd3⟩
  have HL := Lib.hid (likeB_of (R1.out.same hr3))
  have B4 := Lib.hid hd3.below
  clear hr3 hd3
  go_wp2_with fail
  refine (like_any _ _ _).mono ?_
  rw [HL.out]
  rintro e w5 ⟨rfl, rfl⟩
  have B14 := Lib.hid ((B2.out.trans (B3.out.mono B2.out.size)).trans (B4.out.mono (Nat.le_trans B2.out.size B3.out.size)))
  have B04 := Lib.hid (B1.out.trans (B14.out.mono B1.out.size))
  have HA : Hid (At a a1 w1.heap.size len ns w4) := by
    refine Lib.hid ?_
    intro k hk
    rcases HR.out.2.2 with h0 | ⟨b, off, ha, hb, hc⟩
    · omega
    rcases HC1.out with ⟨_, h0⟩ | ⟨g, e1, e2, e3, e4, e5, e6⟩
    · omega
    exact ⟨b, off, g, ha, e1, Nat.lt_of_lt_of_le hb B1.out.size, e3, (B04.out.cell (by exact hb)).trans (hc k hk), (B14.out.cell (by exact e3)).trans (e6 k hk)⟩
  clear H1 H2 M1 M3 R1 HL HC1
  go_wp2_with fail
  go_loopw [4] (fun i wr => ∃ k : Nat, k ≤ len ∧ i = .int .i64 k ∧ Hid (Drawn w4 wr)) (fun i _ => len - (intOf i).toNat)
  case atStart => exact ⟨0, Nat.zero_le _, rfl, Drawn.refl _⟩
  case round =>
    obtain ⟨k, hk, rfl, HD⟩ := hrel
    by_cases hlt : k < len
    · obtain ⟨b, off, g, rfl, rfl, hbB, hgB, hx, hy⟩ := HA.out k hlt
      obtain ⟨m, hm⟩ := HD.out
      have hx' : wr.cell? ⟨b, off + k, none⟩ = some (.int .u64 ((ns.getD k 0 : Nat) : Int)) := by rw [hm]; exact hx
      have hy' : wr.cell? ⟨g, k, none⟩ = some (.float .f64 (ns.getD k 0)) := by rw [hm]; simpa using hy
      clear hx hy hm
      generalize ns.getD k 0 = x at *
      have hof := fun w => Lib.hid (of_any x w)
      have hli := fun w => Lib.hid (like_refl x w)
      have ht : (k : Int).toNat = k := rfl
      go_wp2_with fail
      go_quiet ((first | (go_at_call 12; exact quiet_left (hof _).out) | (go_at_call 9; exact quiet_left (hli _).out)))
      all_goals (try go_wp2_with fail)
      all_goals go_roundw
      case rel => exact ⟨k + 1, by omega, by go_num, Lib.hid (HD.out.trans ⟨_, rfl⟩)⟩
      case measure => simp [intOf]; omega
    · obtain rfl : k = len := by omega
      go_wp2_with fail
      refine (L _).out.mono ?_
      rintro e w6 ⟨rfl, hd6⟩
      have B6 := Lib.hid (HD.out.below.trans (hd6.below.mono HD.out.below.size))
      clear hd6
      go_wp2_with fail
      go_ret
      exact ⟨rfl, B04.out.trans (B6.out.mono (Nat.le_trans B1.out.size B14.out.size))⟩

theorem nrow_of {w : World} {a : Option Addr} {len cap : Nat} {zs : List Int}
    (h : (a = none ∧ len = 0 ∧ cap = 0 ∧ zs = []) ∨ ∃ x, a = some x ∧ len ≤ cap ∧ cap ≤ maxLen ∧ zs.length = cap ∧ (∀ i, i < zs.length → w.cell? (x.add i) = some (.int .u64 (zs.getD i 0))) ∧ ∀ n ∈ zs, (Lit.int .u64 n).wf = true) :
    NRow w.heap.size w a len ((zs.take len).map Int.toNat) := by
  rcases h with ⟨rfl, rfl, rfl, rfl⟩ | ⟨x, rfl, hl, _, hz, hc, hw⟩
  · exact ⟨rfl, by simp, .inl rfl⟩
  · refine ⟨by simp; omega, ?_, ?_⟩
    · intro n hn
      obtain ⟨z, hz1, rfl⟩ := List.mem_map.1 hn
      obtain ⟨m, rfl, hm⟩ := u64_nat (hw z (List.mem_of_mem_take hz1))
      simpa using hm
    · by_cases h0 : len = 0
      · exact .inl h0
      · obtain ⟨b, off, spot⟩ := x
        have h1 := hc 0 (by omega)
        have hspot : spot = none := by simpa [Addr.add] using World.cell?_spot h1
        subst hspot
        refine .inr ⟨b, off, rfl, ?_, fun j hj => ?_⟩
        · have h2 : w.cell? ⟨b, off, none⟩ = some (.int .u64 (zs.getD 0 0)) := by simpa [Addr.add] using h1
          exact block_of_cell h2
        · have h3 := hc j (by omega)
          have e : (⟨b, off, none⟩ : Addr).add j = ⟨b, off + j, none⟩ := by cases j <;> simp [Addr.add]
          rw [e] at h3
          rw [h3]
          have hmem : zs.getD j 0 ∈ zs := by
            rw [List.getD_eq_getElem?_getD, List.getElem?_eq_getElem (show j < zs.length by omega)]; exact List.getElem_mem _
          obtain ⟨m, hm1, _⟩ := u64_nat (hw _ hmem)
          have hg : ((zs.take len).map Int.toNat).getD j 0 = (zs.getD j 0).toNat := by
            rw [List.getD_eq_getElem?_getD, List.getElem?_map, List.getElem?_take_of_lt hj, List.getD_eq_getElem?_getD, List.getElem?_eq_getElem (show j < zs.length by omega)]; rfl
          rw [hg, hm1]; rfl

theorem means_walk (a : Option Addr) (len cap : Nat) (zs : List Int) (w : World)
    (h : (a = none ∧ len = 0 ∧ cap = 0 ∧ zs = []) ∨ ∃ x, a = some x ∧ len ≤ cap ∧ cap ≤ maxLen ∧ zs.length = cap ∧ (∀ i, i < zs.length → w.cell? (x.add i) = some (.int .u64 (zs.getD i 0))) ∧ ∀ n ∈ zs, (Lit.int .u64 n).wf = true) :
    Calls Try.prog 6 #[.slice a len cap] w fun e w' => e = .returned (.bool true) ∧ Below w.heap.size w w' := by
  by_cases h1 : 1000 < len
  · exact means_many a len cap w h1
  · exact means_few a len cap _ w (nrow_of h) (by omega)
end Go.Proofs.Ytfeldgkjgfjeeaa
