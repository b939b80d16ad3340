/- Contracts for lists of floats: 'list' (floats of bits), the two means. -/
import Derived.Test.YtfeldgkjgfjeeaaL
namespace Go.Proofs.Ytfeldgkjgfjeeaa
open Go.RowKit Fl

theorem run_store_float (P : Program) (w : World) (a : Addr) (m : Mode) (k : FloatKind) (b : Nat) : (store a (.float k b) m).run P w = stored P w a (.float k b) m := run_store P w a _ m rfl
attribute [local go_sem] run_store_float

theorem info24 : (Try.prog.info? 24).map (fun i => (i.zero, i.size, i.bytes)) = some (some (.float .f64 0), 1, 8) := by kernel_rfl

/-- a slice of words that came in: nil, or a row below B whose first 'len' cells hold the words 'ns' -/
def NRow (B : Nat) (w : World) (a : Option Addr) (len : Nat) (ns : List Nat) : Prop :=
  ns.length = len ∧ (∀ n ∈ ns, n < 18446744073709551616) ∧ (len = 0 ∨ ∃ b off, a = some ⟨b, off, none⟩ ∧ b < B ∧ ∀ j, j < len → w.cell? ⟨b, off + j, none⟩ = some (.int .u64 ((ns.getD j 0 : Nat) : Int)))

def fl (n : Nat) : Value := .float .f64 n

def flRow (ns : List Nat) (k : Nat) : List Value := (ns.take k).map fl
theorem snoc_fl (ns : List Nat) (k : Nat) (h : k < ns.length) : flRow ns (k + 1) = flRow ns k ++ [fl (ns.getD k 0)] := by
  unfold flRow
  rw [List.take_succ_eq_append_getElem h, List.map_append]
  simp [List.getElem?_eq_getElem h]

def SomeRow (B : Nat) (ns : List Nat) (w : World) (e : Ending) (w' : World) : Prop := ∃ v, e = .returned v ∧ w'.ownsRow B 24 1 v ns.length (ns.map fl) ∧ Below B w w'

set_option maxHeartbeats 400000 in
theorem list_any (a : Option Addr) (len cap : Nat) (ns : List Nat) (w : World) (h : NRow w.heap.size w a len ns) (hlen : len ≤ 1000) :
    Calls Try.prog 20 #[.slice a len cap] w (SomeRow w.heap.size ns w) := by
  obtain ⟨hn, hb, hc⟩ := h
  obtain ⟨i0, hi, hz0, hz1, hz2⟩ := info_parts info24
  have hc' : ∀ j, j < len → ∃ b off, a = some ⟨b, off, none⟩ ∧ b < w.heap.size ∧ w.cell? ⟨b, off + j, none⟩ = some (.int .u64 ((ns.getD j 0 : Nat) : Int)) := by
    intro j hj
    rcases hc with h0 | ⟨b, off, ha, hbb, hcell⟩
    · omega
    · exact ⟨b, off, ha, hbb, hcell j hj⟩
  have HN := Lib.hid hn
  clear hn hc hb
  go_enter Try.func20, Try.ntmps20
  go_wp2
  go_loopw [3, 4] (fun v i wr => ∃ k : Nat, k ≤ len ∧ i = .int .i64 k ∧ wr.ownsRow w.heap.size 24 1 v k (flRow ns k) ∧ Below w.heap.size w wr)
    (fun _ i _ => len - (intOf i).toNat)
  case atStart => exact ⟨0, Nat.zero_le _, rfl, World.ownsRow_nil _ _ _ _, Below.refl _ _⟩
  case round =>
    obtain ⟨k, hk, rfl, hown, hnx⟩ := hrel
    by_cases hlt : k < len
    · obtain ⟨b, off, rfl, hbb, hcell⟩ := hc' k hlt
      have hcx : wr.cell? ⟨b, off + k, none⟩ = some (.int .u64 ((ns.getD k 0 : Nat) : Int)) := (hnx.cell (by exact hbb)).trans hcell
      clear hcell
      generalize hx : ns.getD k 0 = x at *
      have HX := Lib.hid hx
      clear hx hc'
      have hof := fun w => Lib.hid (of_any x w)
      go_wp2_with fail
      refine (hof _).out.mono ?_
      rintro e w1 ⟨rfl, rfl⟩
      go_wp2_with (at_builtin; refine wpList_append_own _ rfl _ _ 35 rfl w.heap.size 24 i0 (.float .f64 0) 1 8 Try.underlying35 hi hz0 hz1 hz2 rfl (by decide) _ _ _ rfl (hown.alloc _) ⟨wr.heap.size, 0, none⟩ 1 1 [fl x] rfl rfl ?c1 ?c2 ?c3 ?c4 ?c5 ?_)
      case c1 =>
        intro j u hj
        match j, hj with
        | 0, hj => simp at hj; subst hj; simp [Addr.add, fl]
      case c2 => intro u hu; simp at hu; subst hu; rfl
      case c3 => unfold maxLen; omega
      case c4 => omega
      case c5 => have := hnx.size; simp; omega
      intro v' w1 hown' hgrow _
      have hnx1 : Below w.heap.size w w1 := (hnx.alloc hnx.size _).grown hgrow (by have := hnx.size; simp; omega) (fun q hq => (hown.lt q hq).1)
      rw [← HX.out] at hown'
      have hs := snoc_fl ns k (by rw [HN.out]; exact hlt)
      rw [← hs] at hown'
      have HS := Lib.hid hown'
      clear hown' hgrow hown hs
      go_wp2_with fail
      go_roundw
      case rel => exact ⟨k + 1, by omega, by go_num, HS.out, hnx1⟩
      case measure => simp [intOf]; omega
    · obtain rfl : k = len := by omega
      have e : flRow ns k = ns.map fl := by unfold flRow; rw [← HN.out, List.take_length]
      rw [e] at hown
      have H := Lib.hid hown
      clear hown e hc'
      go_wp2
      go_ret
      exact ⟨_, rfl, by rw [HN.out]; exact H.out, hnx⟩
end Go.Proofs.Ytfeldgkjgfjeeaa
