/- The iterator of a path's parts: it keeps the rest of the path in a cell of its own. -/
import Derived.RangeFuncBox
import Derived.RangeFuncLeaves
import Derived.RangeFuncBound
import Derived.RangeFuncCalls
import Derived.Shelf.Abstract
import Derived.WalkKit
import Derived.OwnWalkIn
import Derived.TacticsInMore
import Derived.LoopNIn
import Derived.LoopIn
import Derived.Sort.LoopGhostIn
import Derived.Maps.AppendAt
import Derived.Lib.Hide
import Derived.Test.YtlljmbaaabeioaaT
import Derived.Test.YtlljmbaaabeioaaShelf
namespace Go.Proofs.Ytlljmbaaabeioaa
open Go.RowKit

attribute [local go_sem] Oper.semAt_some

theorem cut_any (p : List UInt8) (m : Int) (w : World) (hs : p.length < 4294967281) (hm : w.cell? ⟨0, 0, none⟩ = some (.int .i64 m)) :
    Calls Try.prog 32 #[str p, .string ⟨#[47]⟩] w fun e w' => (∃ b, e = .returned (.tuple #[str (headP p), str (restP p), .bool b])) ∧ ∃ n, w' = w.drewN n := by
  obtain ⟨b, hb⟩ := cut_slash p
  have h := Try.strings_Cut ⟨p.toArray⟩ ⟨#[47]⟩ m w (by simpa [ByteArray.size] using hs) hm
  refine h.mono ?_
  rintro e w' ⟨rfl, hw⟩
  refine ⟨⟨b, ?_⟩, hw⟩
  simp [hb, str]

set_option maxRecDepth 100000 in
set_option maxHeartbeats 1000000 in
theorem parts_in (l Bn : Nat) (m : Int) (J Jx : List (List UInt8) → World → Prop)
    (hJd : ∀ s W, J s W → ∀ k, J s (W.drewN k)) (hJs : ∀ s W, J s W → ∀ u, J s (W.setCell ⟨Bn, 0, none⟩ u)) (hJm : ∀ s W, J s W → W.cell? ⟨0, 0, none⟩ = some (.int .i64 m))
    (p : List UInt8) (hY : ∀ pre x W, J pre W → pre ++ [x] <+: partsOf p → YieldAt Fence.wide 2 Try.prog l #[str x] W fun e W' => (e = .returned (.bool true) ∧ J (pre ++ [x]) W' ∧ W'.heap[Bn]? = W.heap[Bn]?) ∨ (e = .returned (.bool false) ∧ Jx (pre ++ [x]) W'))
    (hp : p.length < 4294967281) (W : World) (hb : Boxed W Bn 9 (str p)) (h0 : J [] W) :
    CallsIn Fence.wide 3 Try.prog 31 #[.func (.yield l) #[] #[], .pointer (some ⟨Bn, 0, none⟩)] W fun e W' => (∃ v, e = .returned v) ∧ (J (partsOf p) W' ∨ ∃ pre, pre <+: partsOf p ∧ Jx pre W') := by
  have HJD := Lib.hid hJd
  have HJS := Lib.hid hJs
  have HJM := Lib.hid hJm
  have HY := Lib.hid hY
  have HB := Lib.hid hb
  have H0 := Lib.hid h0
  clear hJd hJs hJm hY hb h0
  refine callsIn_of_wp Try.func31 rfl trivial ?_ rfl
  simp only [Try.ntmps31, List.size_toArray, List.length_cons, List.length_nil, Nat.reduceAdd, Nat.reduceSub, Array.replicate_succ, Array.replicate_zero, List.push_toArray, List.append_toArray, List.nil_append, List.cons_append]
  gi_wp2
  gi_loopg [] p.length (fun g wr => ∃ (pre : List (List UInt8)) (q : List UInt8), q.length = g ∧ q.length ≤ p.length ∧ Hid (Boxed wr Bn 9 (str q)) ∧ Hid (J pre wr) ∧ Hid (pre ++ partsOf q = partsOf p))
  case atStart => exact ⟨[], p, rfl, Nat.le_refl _, HB, H0, Lib.hid rfl⟩
  case round =>
    obtain ⟨pre, q, hqg, hqp, HBq, HJ, HP⟩ := hrel
    have c0 := HBq.out.cell
    have f0 := HBq.out.frozen
    by_cases hq : q = []
    · subst hq
      unfold str at c0
      gi_wp2
      go_end0
      exact ⟨⟨_, rfl⟩, .inl (by have h := HP.out; rw [parts_nil, List.append_nil] at h; rw [← h]; exact HJ.out)⟩
    · have hb : q.isEmpty = false := by simpa using hq
      have HC := Lib.hid (cut_any q m wr (by omega) (HJM.out _ _ HJ.out))
      have HR := Lib.hid (rest_lt hq)
      have HK := Lib.hid (fun h => parts_keep hq h)
      have HS := Lib.hid (fun h => parts_skip hq h)
      unfold str at c0
      gi_wp2
      refine ⟨trivial, ?_⟩
      refine (callsIn_wide.2 HC.out).mono ?_
      rintro e w2 ⟨⟨bb, rfl⟩, k, rfl⟩
      have HJ2 := Lib.hid (HJS.out _ _ (HJD.out _ _ HJ.out k) (str (restP q)))
      have HB2 := Lib.hid (Boxed.set (str (restP q)) (show Boxed (wr.drewN k) Bn 9 (str q) from HBq.out))
      have c1 : (wr.drewN k).cell? ⟨Bn, 0, none⟩ = some (.string { data := q.toArray }) := c0
      have f1 : (wr.drewN k).frozen? ⟨Bn, 0, none⟩ = false := f0
      generalize headP q = x at *
      unfold str at HJ2 HB2 ⊢
      by_cases hx0 : x = []
      · subst hx0
        gi_wp2
        refine ⟨fun _ h => (by cases h), ?_⟩
        gi_wp2
        gi_roundg (restP q).length
        case measure => rw [← hqg]; exact HR.out
        case rel => exact ⟨pre, restP q, rfl, by have := HR.out; omega, HB2, HJ2, Lib.hid (by rw [← HP.out, HS.out rfl])⟩
      · have hx : x.isEmpty = false := by simpa using hx0
        by_cases hx1 : x = [46]
        · subst hx1
          gi_wp2
          refine ⟨fun _ h => (by cases h), ?_⟩
          gi_wp2
          gi_roundg (restP q).length
          case measure => rw [← hqg]; exact HR.out
          case rel => exact ⟨pre, restP q, rfl, by have := HR.out; omega, HB2, HJ2, Lib.hid (by rw [← HP.out, HS.out rfl])⟩
        · have hx2 : (x == [46]) = false := beq_eq_false_iff_ne.2 hx1
          have hkp : keepP x = true := by unfold keepP; simp [hx0, hx1]
          have HP2 : Hid ((pre ++ [x]) ++ partsOf (restP q) = partsOf p) := Lib.hid (by rw [← HP.out, HK.out hkp, List.append_assoc]; rfl)
          clear hx0 hx1 HK HS
          obtain ⟨fn, tmps, assign, body, hy, hR⟩ := HY.out pre x _ HJ2.out ⟨_, HP2.out⟩
          have HRR := Lib.hid hR
          clear hR
          unfold str at hy
          gi_wp2
          refine HRR.out.mono ?_
          rintro e W3 (⟨rfl, hJ3, hk3⟩ | ⟨rfl, hJx3⟩)
          · have HJ3 := Lib.hid hJ3
            have HB3 := Lib.hid (show Boxed W3 Bn 9 (.string { data := (restP q).toArray }) from hk3.trans HB2.out)
            clear hJ3 hk3
            gi_wp2
            gi_roundg (restP q).length
            case measure => rw [← hqg]; exact HR.out
            case rel => exact ⟨pre ++ [x], restP q, rfl, by have := HR.out; omega, HB3, HJ3, HP2⟩
          · have HJX := Lib.hid hJx3
            clear hJx3
            gi_wp2
            refine bodyPost_ret (results_none rfl _ _ _) rfl ?_
            exact ⟨⟨_, rfl⟩, .inr ⟨pre ++ [x], ⟨partsOf (restP q), HP2.out⟩, HJX.out⟩⟩
end Go.Proofs.Ytlljmbaaabeioaa
