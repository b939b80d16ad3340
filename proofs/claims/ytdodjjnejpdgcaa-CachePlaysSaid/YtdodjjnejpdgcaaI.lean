/- The acts that come in; 'much'. -/
import Derived.Test.YtdodjjnejpdgcaaH
import Derived.Laws.BytesArg
namespace Go.Proofs.Ytdodjjnejpdgcaa
open Go.RowKit Go.Maps

structure ActD where
  d : Int
  k : Int
  ba : Option Addr
  bl : Nat
  bc : Nat
  bs : List Int

/-- a slice of bytes that lies below B, or is nil -/
def BytesIn (B : Nat) (w : World) (a : Option Addr) (l c : Nat) (bs : List Int) : Prop :=
  bs.length = l ∧ ((a = none ∧ l = 0 ∧ c = 0) ∨ ∃ x, a = some x ∧ (l = 0 ∨ ∃ b off, x = ⟨b, off, none⟩ ∧ b < B ∧ ∀ j, j < l → w.cell? ⟨b, off + j, none⟩ = some (.int .u8 (bs.getD j 0))))

structure ActOk (B : Nat) (w : World) (x : ActD) : Prop where
  wd : (Lit.int .i64 x.d).wf = true
  wk : (Lit.int .i64 x.k).wf = true
  b : BytesIn B w x.ba x.bl x.bc x.bs

structure ActsAt (B : Nat) (w : World) (a : Option Addr) (len : Nat) (acts : List ActD) : Prop where
  alen : acts.length = len
  ok : ∀ x ∈ acts, ActOk B w x
  cells : len = 0 ∨ ∃ b off, a = some ⟨b, off, none⟩ ∧ b < B ∧ ∀ i (h : i < acts.length), w.cell? ⟨b, off + i * 3, none⟩ = some (.int .i64 acts[i].d) ∧ w.cell? ⟨b, off + i * 3 + 1, none⟩ = some (.int .i64 acts[i].k) ∧ w.cell? ⟨b, off + i * 3 + 2, none⟩ = some (.slice acts[i].ba acts[i].bl acts[i].bc)

theorem BytesIn.below {B : Nat} {w w' : World} {a : Option Addr} {l c : Nat} {bs : List Int} (h : BytesIn B w a l c bs) (hb : Below B w w') : BytesIn B w' a l c bs := by
  refine ⟨h.1, ?_⟩
  rcases h.2 with h1 | ⟨x, h1, h2 | ⟨b, off, h3, h4, h5⟩⟩
  · exact .inl h1
  · exact .inr ⟨x, h1, .inl h2⟩
  · exact .inr ⟨x, h1, .inr ⟨b, off, h3, h4, fun j hj => (hb.cell (by exact h4)).trans (h5 j hj)⟩⟩
theorem ActOk.below {B : Nat} {w w' : World} {x : ActD} (h : ActOk B w x) (hb : Below B w w') : ActOk B w' x := ⟨h.wd, h.wk, h.b.below hb⟩
theorem ActsAt.below {B : Nat} {w w' : World} {a : Option Addr} {len : Nat} {acts : List ActD} (h : ActsAt B w a len acts) (hb : Below B w w') : ActsAt B w' a len acts := by
  refine ⟨h.alen, fun x hx => (h.ok x hx).below hb, ?_⟩
  rcases h.cells with h0 | ⟨b, off, h1, h2, h3⟩
  · exact .inl h0
  · exact .inr ⟨b, off, h1, h2, fun i hi => ⟨(hb.cell (by exact h2)).trans (h3 i hi).1, (hb.cell (by exact h2)).trans (h3 i hi).2.1, (hb.cell (by exact h2)).trans (h3 i hi).2.2⟩⟩

theorem clone_in {B : Nat} {w : World} {a : Option Addr} {l c : Nat} {bs : List Int} (h : BytesIn B w a l c bs) (hl : l ≤ 1000000) : Calls Try.prog 20 #[.slice a l c] w (ClonePost bs w) := by
  have hn := h.1
  rcases h.2 with ⟨rfl, rfl, rfl⟩ | ⟨x, rfl, h2⟩
  · obtain rfl : bs = [] := List.eq_nil_of_length_eq_zero hn
    exact clone_nil w
  · rw [← hn]
    refine clone_some x c bs w ?_ (by omega)
    rcases h2 with h0 | ⟨b, off, h3, _, h5⟩
    · exact .inl (List.eq_nil_of_length_eq_zero (by omega))
    · exact .inr ⟨b, off, by rw [h3], fun j hj => h5 j (by omega)⟩

theorem conv_in {B : Nat} {w : World} {a : Option Addr} {l c : Nat} {bs : List Int} (h : BytesIn B w a l c bs) : (convert 30 9 (.slice a l c)).run Try.prog w = .ok (.string (strOfNums bs)) w := by
  have hn := h.1
  rcases h.2 with ⟨rfl, rfl, rfl⟩ | ⟨x, rfl, h2⟩
  · obtain rfl : bs = [] := List.eq_nil_of_length_eq_zero hn
    exact run_convert_bytes_nil w 30 5 Try.underlying30 Try.underlying5 0 0 9 Try.underlying9
  · rcases h2 with rfl | ⟨b, off, rfl, _, h5⟩
    · obtain rfl : bs = [] := List.eq_nil_of_length_eq_zero hn
      have hl : (loadCells x 0).run Try.prog w = .ok ((([] : List Int).map (Value.int .u8)).toArray) w := by
        exact run_loadCells_list (P := Try.prog) w x [] (fun j v hj => by simp at hj)
      rw [run_convert_bytes_string w 30 9 5 _ 0 c Try.underlying30 Try.underlying5 Try.underlying9, run_bytesToString w _ 0 c [] hl, foldl_push_bytes]
      rfl
    · exact run_convert_bytes_arg w 30 5 Try.underlying30 Try.underlying5 b off l c bs hn h5 9 Try.underlying9

def muchB (acts : List ActD) : Bool := decide (80 < acts.length) || acts.any fun x => decide (2000 < x.bl)

set_option maxHeartbeats 400000 in
theorem much_any (a : Option Addr) (len cap : Nat) (acts : List ActD) (B : Nat) (w : World) (h : ActsAt B w a len acts) :
    Calls Try.prog 6 #[.slice a len cap] w fun e w' => e = .returned (.bool (muchB acts)) ∧ w = w' := by
  have hlen := h.alen
  by_cases h80 : 80 < len
  · have H := Lib.hid (show muchB acts = true from by unfold muchB; rw [hlen, decide_eq_true h80]; rfl)
    clear h hlen
    go_enter Try.func6, Try.ntmps6
    go_wp2
    go_ret
    exact ⟨by rw [H.out]; rfl, rfl⟩
  · have HM := Lib.hid (show muchB acts = acts.any fun x => decide (2000 < x.bl) from by unfold muchB; rw [hlen, decide_eq_false h80]; rfl)
    have HA := Lib.hid h
    have HL := Lib.hid hlen
    clear h hlen
    go_enter Try.func6, Try.ntmps6
    go_wp2
    go_loop [3] (fun i => ∃ k : Nat, k ≤ len ∧ i = .int .i64 k ∧ Hid (∀ j (hj : j < acts.length), j < k → acts[j].bl ≤ 2000)) (fun i => len - (intOf i).toNat)
    case atStart => exact ⟨0, Nat.zero_le _, rfl, Lib.hid (fun j _ h => by omega)⟩
    case round =>
      obtain ⟨k, hk, rfl, HI⟩ := hrel
      by_cases hlt : k < len
      · rcases HA.out.cells with h0 | ⟨b, off, rfl, hb, hc⟩
        · omega
        · have hk' : k < acts.length := by rw [HL.out]; exact hlt
          have c2 := (hc k hk').2.2
          have hmem := List.getElem_mem hk'
          have HX : Hid (2000 < acts[k].bl → muchB acts = true) := Lib.hid (fun hx => by rw [HM.out, List.any_eq_true]; exact ⟨_, hmem, decide_eq_true hx⟩)
          have HY : Hid (acts[k].bl ≤ 2000 → ∀ j (hj : j < acts.length), j < k + 1 → acts[j].bl ≤ 2000) := Lib.hid (fun hx j hj h1 => by
            by_cases e : j = k
            · subst e; exact hx
            · exact HI.out j hj (by omega))
          clear hc hmem
          generalize acts[k].ba = ba at *
          generalize acts[k].bl = bl at *
          generalize acts[k].bc = bc at *
          by_cases hbl : 2000 < bl
          · go_wp2
            go_ret
            exact ⟨by rw [HX.out hbl]; rfl, rfl⟩
          · go_wp2
            go_round
            case rel => exact ⟨k + 1, by omega, by go_num, Lib.hid (HY.out (by omega))⟩
            case measure => simp [intOf]; omega
      · obtain rfl : k = len := by omega
        have H : Hid (muchB acts = false) := by
          refine Lib.hid ?_
          rw [HM.out, List.any_eq_false]
          intro x hx
          obtain ⟨j, hj, rfl⟩ := List.getElem_of_mem hx
          have := HI.out j hj (by have := HL.out; omega)
          simpa using this
        go_wp2
        go_ret
        exact ⟨by rw [H.out]; rfl, rfl⟩
end Go.Proofs.Ytdodjjnejpdgcaa
