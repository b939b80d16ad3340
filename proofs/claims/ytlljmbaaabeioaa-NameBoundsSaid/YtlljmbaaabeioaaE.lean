/- Same, Valid, num: contracts. -/
import Derived.Test.YtlljmbaaabeioaaD
import Derived.Deep.QuietTactic
import Derived.BigQuiet
namespace Go.Proofs.Ytlljmbaaabeioaa
open Go.RowKit

theorem num_any (x : Int) (w : World) : Calls Try.prog 14 #[.int .i64 x] w fun e w' => e = .returned (.int .i64 x) ∧ w = w' := by
  go_enter Try.func14, Try.ntmps14
  go_wp2
  go_ret
  exact ⟨rfl, rfl⟩

/-- a list of texts in memory -/
def SAt (w : World) (v : Value) (ps : List (List UInt8)) : Prop := ∃ a c, v = .slice a ps.length c ∧ ∀ i (_ : i < ps.length), ∃ b off, a = some ⟨b, off, none⟩ ∧ w.cell? ⟨b, off + i, none⟩ = some (str ps[i])
theorem SAt.drewN {w : World} {v : Value} {ps : List (List UInt8)} (h : SAt w v ps) (n : Nat) : SAt (w.drewN n) v ps := h
theorem SAt.below {w w' : World} {v : Value} {ps : List (List UInt8)} (h : SAt w v ps) (hb : Below w.heap.size w w') : SAt w' v ps := by
  obtain ⟨a, c, h1, h2⟩ := h
  refine ⟨a, c, h1, fun i hi => ?_⟩
  obtain ⟨b, off, h3, h4⟩ := h2 i hi
  refine ⟨b, off, h3, (hb.cell (p := ⟨b, off + i, none⟩) ?_).trans h4⟩
  exact World.block_lt_of_cell? w _ h4
theorem SAt.row {w : World} {B : Nat} {v : Value} {ps : List (List UInt8)} (h : w.ownsRow B 9 1 v ps.length (ps.map str)) : SAt w v ps := by
  have h0 := h
  rcases h.2 with ⟨h1, h2⟩ | ⟨g, cap, cur, h1, _⟩
  · exact ⟨none, 0, by rw [h1, h2], fun i hi => by omega⟩
  · refine ⟨_, cap, h1, fun i hi => ⟨g, 0, rfl, ?_⟩⟩
    have h3 := h0.cells (g := g) (by rw [h1]; rfl) i (str ps[i]) (by rw [List.getElem?_map, List.getElem?_eq_getElem hi]; rfl)
    have h4 : (⟨g, 0, none⟩ : Addr).add i = ⟨g, 0 + i, none⟩ := by cases i <;> simp [Addr.add]
    rwa [h4] at h3

set_option maxHeartbeats 800000 in
theorem same_any {w : World} {v1 v2 : Value} {p1 p2 : List (List UInt8)} (h1 : SAt w v1 p1) (h2 : SAt w v2 p2) (hl : p1.length ≤ 1000000) :
    Calls Try.prog 11 #[v1, v2] w fun e w' => e = .returned (.bool (decide (p1 = p2))) ∧ ∃ n, w' = w.drewN n := by
  obtain ⟨a1, c1, rfl, g1⟩ := h1
  obtain ⟨a2, c2, rfl, g2⟩ := h2
  have HG1 := Lib.hid g1
  have HG2 := Lib.hid g2
  clear g1 g2
  by_cases hlen : p1.length = p2.length
  · have HL := Lib.hid hlen
    obtain ⟨n1, hn1⟩ : ∃ n1, Hid (p1.length = n1) := ⟨_, Lib.hid rfl⟩
    rw [← hlen, hn1.out]
    rw [hn1.out] at hl hlen
    clear hlen
    go_enter Try.func11, Try.ntmps11
    go_wp2_with fail
    go_loopg [5] n1 (fun g i wr => ∃ k : Nat, k + g = n1 ∧ i = .int .i64 k ∧ Hid (∃ n, wr = w.drewN n) ∧ Hid (p1.take k = p2.take k))
    case atStart => exact ⟨0, by omega, rfl, Lib.hid ⟨0, rfl⟩, Lib.hid rfl⟩
    case round =>
      obtain ⟨k, hk, rfl, HD, HT⟩ := hrel
      by_cases hlt : k < n1
      · have hk1 : k < p1.length := by rw [hn1.out]; exact hlt
        have hk2 : k < p2.length := by rw [← HL.out]; exact hk1
        obtain ⟨b1, o1, rfl, q1⟩ := HG1.out k hk1
        obtain ⟨b2, o2, rfl, q2⟩ := HG2.out k hk2
        have r1 : wr.cell? ⟨b1, o1 + k, none⟩ = some (str p1[k]) := by obtain ⟨n, hn⟩ := HD.out; rw [hn]; exact q1
        have r2 : wr.cell? ⟨b2, o2 + k, none⟩ = some (str p2[k]) := by obtain ⟨n, hn⟩ := HD.out; rw [hn]; exact q2
        have HEQ : Hid (p1[k] = p2[k] → p1.take (k + 1) = p2.take (k + 1)) := Lib.hid (fun e => by
          rw [List.take_succ_eq_append_getElem hk1, List.take_succ_eq_append_getElem hk2, HT.out, e])
        have HNE : Hid (p1[k] ≠ p2[k] → p1 ≠ p2) := Lib.hid (fun h e => by subst e; exact h rfl)
        clear q1 q2
        generalize p1[k] = x1 at *
        generalize p2[k] = x2 at *
        unfold str at r1 r2
        by_cases hx : x1 = x2
        · subst hx
          have HV := Lib.hid (HEQ.out rfl)
          go_wp2_with fail
          go_quiet (fail)
          all_goals (try go_wp2_with fail)
          all_goals go_roundg (n1 - (k + 1))
          case measure => omega
          case rel => exact ⟨k + 1, by omega, by go_num, Lib.hid (by obtain ⟨mm, hmm⟩ := HD.out; rw [hmm]; exact ⟨_, by simp; rfl⟩), HV⟩
        · have hx2 : (x1 == x2) = false := beq_eq_false_iff_ne.2 hx
          have HV := Lib.hid (HNE.out hx)
          go_wp2_with fail
          go_quiet (fail)
          all_goals (try go_wp2_with fail)
          all_goals go_ret
          all_goals (refine ⟨by rw [decide_eq_false HV.out]; rfl, ?_⟩)
          all_goals (obtain ⟨mm, hmm⟩ := HD.out; rw [hmm]; exact ⟨_, by simp; rfl⟩)
      · obtain rfl : k = n1 := by omega
        have HV : Hid (p1 = p2) := Lib.hid (by
          have h := HT.out
          rwa [← hn1.out, List.take_length, HL.out, List.take_length] at h)
        go_wp2_with fail
        go_ret
        exact ⟨by rw [decide_eq_true HV.out]; rfl, HD.out⟩
  · have HV : Hid (p1 ≠ p2) := Lib.hid (fun e => hlen (by rw [e]))
    have hb : ((p1.length : Int) == (p2.length : Int)) = false := by rw [beq_eq_false_iff_ne]; omega
    go_enter Try.func11, Try.ntmps11
    go_wp2_with fail
    go_ret
    exact ⟨by rw [decide_eq_false HV.out]; rfl, 0, rfl⟩

def validB (p : List UInt8) : Bool := !p.isEmpty && decide (p.length ≤ 255) && !(p == [46]) && !(p == [46, 46]) && !p.contains 47 && !p.contains 0

theorem ib_neg (p : List UInt8) (c : UInt8) (h : p.contains c = false) : Lib.indexByte p c < 0 := by
  have := index_byte p c; rw [h] at this; simpa using this
theorem ib_pos (p : List UInt8) (c : UInt8) (h : p.contains c = true) : 0 ≤ Lib.indexByte p c := by
  have := index_byte p c; rw [h] at this; simpa using this

set_option maxHeartbeats 800000 in
theorem valid_any (p : List UInt8) (w : World) : Calls Try.prog 15 #[str p] w fun e w' => e = .returned (.bool (validB p)) ∧ w = w' := by
  have H47 : Hid (∀ w, Calls Try.prog 23 #[str p, .int .u8 47] w fun e w' => e = .returned (.int .i64 (Lib.indexByte p 47)) ∧ w = w') := Lib.hid (fun w => ib_any p 47 w)
  have H0 : Hid (∀ w, Calls Try.prog 23 #[str p, .int .u8 0] w fun e w' => e = .returned (.int .i64 (Lib.indexByte p 0)) ∧ w = w') := Lib.hid (fun w => ib_any p 0 w)
  unfold str at *
  by_cases h1 : p = []
  · subst h1
    clear H47 H0
    go_enter Try.func15, Try.ntmps15
    go_wp2_with fail
    go_ret
    exact ⟨rfl, rfl⟩
  · have e1 : p.isEmpty = false := by simpa using h1
    by_cases h2 : 255 < p.length
    · have HV : Hid (validB p = false) := Lib.hid (by unfold validB; rw [decide_eq_false (by omega)]; simp)
      clear H47 H0
      go_enter Try.func15, Try.ntmps15
      go_wp2_with fail
      go_ret
      exact ⟨by rw [HV.out]; rfl, rfl⟩
    · by_cases h3 : p = [46]
      · subst h3
        clear H47 H0
        go_enter Try.func15, Try.ntmps15
        go_wp2_with fail
        go_ret
        exact ⟨rfl, rfl⟩
      · have e3 : (p == [46]) = false := beq_eq_false_iff_ne.2 h3
        by_cases h4 : p = [46, 46]
        · subst h4
          clear H47 H0
          go_enter Try.func15, Try.ntmps15
          go_wp2_with fail
          go_ret
          exact ⟨rfl, rfl⟩
        · have e4 : (p == [46, 46]) = false := beq_eq_false_iff_ne.2 h4
          cases h5 : p.contains 47
          · have h5' := ib_neg p 47 h5
            cases h6 : p.contains 0
            · have h6' := ib_neg p 0 h6
              have HV : Hid (validB p = true) := Lib.hid (by unfold validB; rw [e1, e3, e4, h5, h6, decide_eq_true (by omega)]; rfl)
              clear h1 h3 h4 h5 h6
              generalize Lib.indexByte p 47 = i1 at *
              generalize Lib.indexByte p 0 = i2 at *
              go_enter Try.func15, Try.ntmps15
              go_wp2_with fail
              refine (H47.out _).mono ?_
              rintro e w1 ⟨rfl, rfl⟩
              go_wp2_with fail
              refine (H0.out _).mono ?_
              rintro e w1 ⟨rfl, rfl⟩
              go_wp2_with fail
              go_ret
              exact ⟨by rw [HV.out]; rfl, rfl⟩
            · have h6' := ib_pos p 0 h6
              have HV : Hid (validB p = false) := Lib.hid (by unfold validB; rw [h6]; simp)
              clear h1 h3 h4 h5 h6
              generalize Lib.indexByte p 47 = i1 at *
              generalize Lib.indexByte p 0 = i2 at *
              go_enter Try.func15, Try.ntmps15
              go_wp2_with fail
              refine (H47.out _).mono ?_
              rintro e w1 ⟨rfl, rfl⟩
              go_wp2_with fail
              refine (H0.out _).mono ?_
              rintro e w1 ⟨rfl, rfl⟩
              go_wp2_with fail
              go_ret
              exact ⟨by rw [HV.out, ← decide_eq_false (show ¬ i2 < 0 by omega)]; rfl, rfl⟩
          · have h5' := ib_pos p 47 h5
            have HV : Hid (validB p = false) := Lib.hid (by unfold validB; rw [h5]; simp)
            clear h1 h3 h4 h5
            generalize Lib.indexByte p 47 = i1 at *
            go_enter Try.func15, Try.ntmps15
            go_wp2_with fail
            refine (H47.out _).mono ?_
            rintro e w1 ⟨rfl, rfl⟩
            go_wp2_with fail
            go_ret
            exact ⟨by rw [HV.out]; rfl, rfl⟩

theorem byte_at {p : List UInt8} {j : Nat} (h : j < p.length) : ({ data := p.toArray } : ByteArray)[j]'(by simpa [ByteArray.size] using h) = p[j] := rfl

set_option maxHeartbeats 800000 in
theorem rvalid_any (p : List UInt8) (hp : p.length ≤ 1000000) (w : World) : Calls Try.prog 16 #[str p] w fun e w' => e = .returned (.bool (validB p)) ∧ w = w' := by
  unfold str at *
  by_cases h1 : p = []
  · subst h1
    go_enter Try.func16, Try.ntmps16
    go_wp2_with fail
    go_ret
    exact ⟨rfl, rfl⟩
  · have e1 : p.isEmpty = false := by simpa using h1
    have l1 : 0 < p.length := List.length_pos_iff.2 h1
    by_cases h2 : 255 < p.length
    · have HV : Hid (validB p = false) := Lib.hid (by unfold validB; rw [decide_eq_false (by omega)]; simp)
      clear h1
      go_enter Try.func16, Try.ntmps16
      go_wp2_with fail
      go_ret
      exact ⟨by rw [HV.out]; rfl, rfl⟩
    · by_cases h3 : p = [46]
      · subst h3
        go_enter Try.func16, Try.ntmps16
        go_wp2_with fail
        go_ret
        exact ⟨rfl, rfl⟩
      · have e3 : (p == [46]) = false := beq_eq_false_iff_ne.2 h3
        by_cases h4 : p = [46, 46]
        · subst h4
          go_enter Try.func16, Try.ntmps16
          go_wp2_with fail
          go_ret
          exact ⟨rfl, rfl⟩
        · have e4 : (p == [46, 46]) = false := beq_eq_false_iff_ne.2 h4
          have HVB : Hid (validB p = (!p.contains 47 && !p.contains 0)) := Lib.hid (by unfold validB; rw [e1, e3, e4, decide_eq_true (by omega)]; simp)
          clear h1 h3 h4
          go_enter Try.func16, Try.ntmps16
          go_wp2_with fail
          go_loop [3] (fun i => ∃ j : Nat, j ≤ p.length ∧ i = .int .i64 j ∧ Hid ((p.take j).contains 47 = false ∧ (p.take j).contains 0 = false)) (fun i => p.length - (intOf i).toNat)
          case atStart => exact ⟨0, Nat.zero_le _, rfl, Lib.hid ⟨rfl, rfl⟩⟩
          case round =>
            obtain ⟨j, hj, rfl, HI⟩ := hrel
            by_cases hlt : j < p.length
            · have hx := byte_at hlt
              have HC1 : Hid (∀ c : UInt8, (p[j].toNat : Int) = c.toNat → p.contains c = true) := Lib.hid (fun c h => by
                have : p[j] = c := UInt8.toNat_inj.1 (by omega)
                rw [← this]; exact List.contains_iff_mem.2 (List.getElem_mem hlt))
              have HC2 : Hid (∀ c : UInt8, (p[j].toNat : Int) ≠ c.toNat → (p.take j).contains c = false → (p.take (j + 1)).contains c = false) := Lib.hid (fun c h h2 => by
                rw [List.take_succ_eq_append_getElem hlt, List.contains_eq_any_beq, List.any_append, ← List.contains_eq_any_beq, h2, Bool.false_or]
                simp; intro e; exact h (by rw [e]))
              generalize p[j] = x at *
              by_cases x47 : (x.toNat : Int) = 47
              · have HV : Hid (validB p = false) := Lib.hid (by rw [HVB.out, HC1.out 47 (by simpa using x47)]; rfl)
                have b47 : ((x.toNat : Int) == 47) = true := beq_iff_eq.2 x47
                clear x47
                go_wp2_with fail
                go_ret
                exact ⟨by rw [HV.out]; rfl, rfl⟩
              · have b47 : ((x.toNat : Int) == 47) = false := beq_eq_false_iff_ne.2 x47
                by_cases x0 : (x.toNat : Int) = 0
                · have HV : Hid (validB p = false) := Lib.hid (by rw [HVB.out, HC1.out 0 (by simpa using x0)]; simp)
                  have b0 : ((x.toNat : Int) == 0) = true := beq_iff_eq.2 x0
                  clear x47 x0
                  go_wp2_with fail
                  go_ret
                  exact ⟨by rw [HV.out]; rfl, rfl⟩
                · have b0 : ((x.toNat : Int) == 0) = false := beq_eq_false_iff_ne.2 x0
                  have HN := Lib.hid (And.intro (HC2.out 47 (by simpa using x47) HI.out.1) (HC2.out 0 (by simpa using x0) HI.out.2))
                  clear x47 x0
                  go_wp2_with fail
                  go_round
                  case rel => exact ⟨j + 1, by omega, by go_num, HN⟩
                  case measure => simp [intOf]; omega
            · obtain rfl : j = p.length := by omega
              have HV : Hid (validB p = true) := Lib.hid (by
                have h := HI.out
                rw [List.take_length] at h
                rw [HVB.out, h.1, h.2]; rfl)
              go_wp2_with fail
              go_ret
              exact ⟨by rw [HV.out]; rfl, rfl⟩
end Go.Proofs.Ytlljmbaaabeioaa
