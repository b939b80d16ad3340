/- The comparison, and the exchange of two ranges: walks. -/
import Derived.Test.YtfeldgkjgfjeeaaO
import Derived.Test.YtfeldgkjgfjeeaaG
import Derived.Shelf.SlSortCmp.KitK
import Derived.Deep.LoopGhost
namespace Go.Proofs.Ytfeldgkjgfjeeaa
open Go.RowKit Go.Sort Fl
attribute [local go_sem] run_store_float

/-- a place: its key and its float's bits -/
def encP (p : Nat × Nat) : List Value := [.int .u64 (p.1 : Int), .float .f64 p.2]
def cfP (p q : Nat × Nat) : Int := cmpI p.1 q.1
theorem encP_len (p : Nat × Nat) : (encP p).length = 2 := rfl
theorem encP_one (p : Nat × Nat) : ∀ v ∈ encP p, v.oneCell' = true := by
  intro v hv; simp [encP] at hv; rcases hv with rfl | rfl <;> rfl
theorem ltP (x y : Nat × Nat) : ltOf cfP x y = decide (x.1 < y.1) := by
  have h : cfP x y < 0 ↔ x.1 < y.1 := by
    unfold cfP cmpI
    constructor
    · intro h
      by_cases h1 : x.1 < y.1
      · exact h1
      · rw [if_neg h1] at h; split at h <;> omega
    · intro h1; rw [if_pos h1]; omega
  unfold ltOf
  by_cases h1 : x.1 < y.1
  · rw [decide_eq_true h1, decide_eq_true (h.2 h1)]
  · rw [decide_eq_false h1, decide_eq_false (fun e => h1 (h.1 e))]
theorem swoP : SWO (ltOf cfP) where
  irrefl := fun x => by rw [ltP]; simp
  trans := fun x y z h1 h2 => by rw [ltP, decide_eq_true_eq] at *; omega
  ntrans := fun x y z h1 h2 => by rw [ltP, decide_eq_false_iff_not] at *; omega

theorem eg37 : ∀ args w, (callFunc 37 args).run Try.prog w = .ok (.enter 37 args) w := enters_of Try.func37 (by kernel_rfl) rfl

set_option maxHeartbeats 1000000 in
theorem against_any (x y : Nat × Nat) (W : World) : Calls Try.prog 37 #[.agg (encP x).toArray, .agg (encP y).toArray] W fun e w' => e = .returned (.int .i64 (cfP x y)) ∧ ∃ q os', w' = grow (W.drewN q) os' := by
  have hcon := fun W' => cmp_any x.1 y.1 W'
  unfold cfP
  unfold encP
  generalize cmpI x.1 y.1 = r at hcon ⊢
  go_enter Try.func37, Try.ntmps37
  go_wp2_with (go_at_call 33; refine (hcon _).mono ?_; rintro e w' ⟨rfl, rfl⟩)
  go_ret
  exact ⟨rfl, 0, _, by rw [alloc_eq_grow, alloc_eq_grow, grow_grow]; rfl⟩

theorem cmpLaysP (blk off size : Nat) (w : World) : CmpLays Try.prog 37 #[] encP 2 cfP blk off size w :=
  fun _ _ _ _ x y => against_any x y _

theorem rowP {w0 : World} {blk off : Nat} {d0 : Array (Nat × Nat)} (h : HoldsK encP 2 w0 blk off d0) (hb : blk < w0.heap.size) : RowK encP 2 w0 blk off d0 := ⟨encP_len, encP_one, h, hb⟩

/-- the cells of a place -/
theorem place_cells {w0 W : World} {blk off : Nat} {d0 dk : Array (Nat × Nat)} (S : SWK encP 2 w0 blk off dk W) (R : RowK encP 2 w0 blk off d0) (hs : dk.size = d0.size) (i : Nat) (hi : i < dk.size) :
    (W.cell? ⟨blk, off + i * 2, none⟩ = some (.int .u64 (dk[i]!.1 : Int)) ∧ W.cell? ⟨blk, off + i * 2 + 1, none⟩ = some (.float .f64 dk[i]!.2)) ∧ W.frozen? ⟨blk, off + i * 2, none⟩ = false ∧ W.frozen? ⟨blk, off + i * 2 + 1, none⟩ = false := by
  have h := S.holds R.hblk R.hH hs
  have c0 := HoldsK.cell h hi (show 0 < 2 by omega)
  have c1 := HoldsK.cell h hi (show 1 < 2 by omega)
  exact ⟨⟨c0.1, c1.1⟩, c0.2, c1.2⟩

/-- the row behind an exchange of two places -/
theorem swapped_cells {w0 W : World} {blk off : Nat} {d0 dk : Array (Nat × Nat)} (S : SWK encP 2 w0 blk off dk W) (R : RowK encP 2 w0 blk off d0) (i j : Nat) (hi : i < dk.size) (hj : j < dk.size) :
    SWK encP 2 w0 blk off (swp dk i j) ((((W.setCell ⟨blk, off + i * 2, none⟩ (.int .u64 (dk[j]!.1 : Int))).setCell ⟨blk, off + i * 2 + 1, none⟩ (.float .f64 dk[j]!.2)).setCell ⟨blk, off + j * 2, none⟩ (.int .u64 (dk[i]!.1 : Int))).setCell ⟨blk, off + j * 2 + 1, none⟩ (.float .f64 dk[i]!.2)).drew :=
  S.swapped R i j hi hj

set_option maxHeartbeats 4000000 in
set_option maxRecDepth 1000000 in
theorem swapRange_any (blk off cap a b n : Nat) (d0 d : Array (Nat × Nat)) (w0 w : World) (R : RowK encP 2 w0 blk off d0) (hs : d0.size = d.size) (S : SWK encP 2 w0 blk off d w) (hab : a + n ≤ b) (hb : b + n ≤ d.size) (hsz : d.size ≤ 1000) :
    Calls Try.prog 43 #[.slice (some ⟨blk, off, none⟩) d.size cap, .int .i64 a, .int .i64 b, .int .i64 n, .func (.func 37) #[] #[]] w fun e w' => e = .returned (.tuple #[]) ∧ SWK encP 2 w0 blk off (swapN d a b n) w' := by
  have mixed : Try.prog.follows .mixedOrders = true := by kernel_rfl
  have aE := Try.isAgg49
  have zE := Try.sizeOf49
  have S0 : Aside (SWK encP 2 w0 blk off d w) := S
  have HN : Hid (∀ n, (swapN d a b n).size = d.size) := Lib.hid (swapN_size d a b)
  clear S
  go_enter Try.func43, Try.ntmps43
  go_wp2_with fail
  go_loopg [10] n (fun kx s10 wr => ∃ (i : Nat), s10 = .int .i64 i ∧ i + kx = n ∧ Aside (SWK encP 2 w0 blk off (swapN d a b i) wr))
  case atStart => exact ⟨0, rfl, by omega, S0⟩
  case round =>
    clear S0
    obtain ⟨i, rfl, hin, S1⟩ := hrel
    by_cases hlt : (i : Int) < n
    · have hds := HN.out i
      obtain ⟨dk, hdk⟩ : ∃ dk, dk = swapN d a b i := ⟨_, rfl⟩
      have HNx : Hid (swapN d a b (i + 1) = swp dk (a + i) (b + i)) := Lib.hid (by rw [hdk]; rfl)
      rw [← hdk] at S1 hds
      clear hdk
      have ea : ((a : Int) + (i : Int)).toNat = a + i := by omega
      have pa : (0 : Int) ≤ (a : Int) + (i : Int) := by omega
      have ba : (a : Int) + (i : Int) < (d.size : Int) := by omega
      have ra : IntKind.i64.wrap ((a : Int) + (i : Int)) = (a : Int) + (i : Int) := by rw [IntKind.wrap_i64]; omega
      have ec : ((b : Int) + (i : Int)).toNat = b + i := by omega
      have pc : (0 : Int) ≤ (b : Int) + (i : Int) := by omega
      have bc : (b : Int) + (i : Int) < (d.size : Int) := by omega
      have rc : IntKind.i64.wrap ((b : Int) + (i : Int)) = (b : Int) + (i : Int) := by rw [IntKind.wrap_i64]; omega
      have S2 : Aside _ := swapped_cells S1.out R (a + i) (b + i) (by omega) (by omega)
      obtain ⟨⟨x1, x2⟩, x3, x4⟩ := place_cells S1.out R (by omega) (a + i) (by omega)
      obtain ⟨⟨y1, y2⟩, y3, y4⟩ := place_cells S1.out R (by omega) (b + i) (by omega)
      generalize dk[a + i]!.1 = p1 at *
      generalize dk[a + i]!.2 = p2 at *
      generalize dk[b + i]!.1 = q1 at *
      generalize dk[b + i]!.2 = q2 at *
      clear S1
      go_wp2_with fail
      go_big_region_o
      clear x1 x2 x3 x4 y1 y2 y3 y4
      generalize World.drew _ = w2 at S2 ⊢
      go_wp2_with fail
      go_roundg (n - (i + 1))
      case measure => omega
      case rel => exact ⟨i + 1, by go_num, by omega, by rw [HNx.out]; exact S2⟩
    · obtain rfl : i = n := by omega
      go_wp2_with fail
      go_end0
      exact ⟨rfl, S1.out⟩
end Go.Proofs.Ytfeldgkjgfjeeaa
