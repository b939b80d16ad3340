/- The walk of the law CacheTrue. -/
import Derived.Test.YtdodjjnejpdgcaaJ
import Derived.Deep.DeepCutAuto
import Derived.Deep.QuietTactic
import Derived.BigQuiet
namespace Go.Proofs.Ytdodjjnejpdgcaa
open Go.RowKit Go.Maps

section
variable {B : Nat} {w : World} {C M n : Nat} {most hits misses : Int} {L : List Ent} {D : DataW Unit}

def ActPost (B C M n : Nat) (most hits misses : Int) (nl : Nat) (acts : List ActD) (i : Nat) (x : ActD) (w w' : World) : Prop :=
  ∃ L' D' n', (n' ≤ n + 1 ∧ L'.length ≤ nl + 1) ∧ CacheAt B w' C M n' most hits misses L' D' ∧ Fr B w w' ∧ Inv acts (i + 1) most L' ∧ Kept x most L'

theorem evict_len {most : Int} (L : List Ent) : (evict most L).length ≤ L.length :=
  evict_ind (P := fun K => K.length ≤ L.length) (fun K _ _ h => by rw [List.length_dropLast]; omega) _ L (Nat.le_refl _) (Nat.le_refl _)
theorem front_len {L : List Ent} {e : Ent} (he : e ∈ L) (hk : (L.map Ent.key).Nodup) : (e :: L.filter fun y => y.key != e.key).length = L.length := by
  obtain ⟨L1, L2, rfl⟩ := List.append_of_mem he
  rw [filter_key hk]
  simp; omega

theorem act_put (h : CacheAt B w C M n most hits misses L D) (h0 : 0 ≤ most) (hmost : most ≤ 8388608) (hn : n ≤ 1000000) {acts : List ActD} {i : Nat} {x : ActD} (hI : Inv acts i most L) (hx : acts[i]? = some x) (hd : x.d = 1) (hl : x.bl ≤ 1000000) (hok : ActOk B w x) :
    Calls Try.prog 10 #[.pointer (some ⟨C, 0, none⟩), .int .i64 x.k, .slice x.ba x.bl x.bc] w fun e w' => (∃ v, e = .returned (.int .i64 v)) ∧ ActPost B C M n most hits misses L.length acts i x w w' := by
  by_cases hb : (x.bl : Int) ≤ most
  · have hlen := hok.b.1
    have := put_some h hI.1 hmost hn hok.wk x.ba x.bs x.bc (by omega) (by omega) (fun w' hf => by rw [hlen]; exact clone_in (hok.b.below hf.below) hl)
    rw [hlen] at this
    refine this.mono ?_
    rintro e w' ⟨E, bv, _, rfl, ⟨D', hc⟩, hf⟩
    refine ⟨⟨0, rfl⟩, _, D', n + 1, ⟨Nat.le_refl _, by refine Nat.le_trans (evict_len _) ?_; rw [List.length_cons]; exact Nat.succ_le_succ (List.length_filter_le _ _)⟩, hc, hf, hI.put h0 hx hd E bv, fun _ _ => ?_⟩
    obtain ⟨K, hK⟩ := evict_head (most := most) ⟨x.k, x.bs, E, bv⟩ (L.filter fun e => e.key != x.k) (by show (x.bs.length : Int) ≤ most; omega)
    rw [hK]
    exact ⟨_, List.mem_cons_self, rfl⟩
  · refine (put_big h (by have := hI.1; omega) hok.wk x.ba x.bl x.bc (by omega)).mono ?_
    rintro e w' ⟨rfl, ⟨D', hc⟩, hf⟩
    exact ⟨⟨0, rfl⟩, _, D', n, ⟨by omega, Nat.le_succ_of_le (List.length_filter_le _ _)⟩, hc, hf, hI.drop hx, fun _ h => absurd h hb⟩
theorem act_drop (h : CacheAt B w C M n most hits misses L D) (hmost : most ≤ 8388608) {acts : List ActD} {i : Nat} {x : ActD} (hI : Inv acts i most L) (hx : acts[i]? = some x) (hd : x.d = 2) (hok : ActOk B w x) :
    Calls Try.prog 11 #[.pointer (some ⟨C, 0, none⟩), .int .i64 x.k] w fun e w' => e = .returned (.tuple #[]) ∧ ActPost B C M n most hits misses L.length acts i x w w' := by
  refine (drop_any h (by have := hI.1; omega) hok.wk).mono ?_
  rintro e w' ⟨rfl, ⟨D', hc⟩, hf⟩
  exact ⟨rfl, _, D', n, ⟨by omega, Nat.le_succ_of_le (List.length_filter_le _ _)⟩, hc, hf, hI.drop hx, fun h => by omega⟩
end

theorem true_much (most : Int) (a : Option Addr) (len cap : Nat) (acts : List ActD) (w : World) (h : ActsAt w.heap.size w a len acts) (hm : muchB acts = true) :
    Calls Try.prog 3 #[.int .i64 most, .slice a len cap] w fun e w' => e = .returned (.bool true) ∧ Below w.heap.size w w' := by
  have H := Lib.hid (much_any a len cap acts w.heap.size w h)
  rw [hm] at H
  clear h hm
  go_enter Try.func3, Try.ntmps3
  go_wp2_with fail
  refine H.out.mono ?_
  rintro e w1 ⟨rfl, rfl⟩
  go_wp2_with fail
  refine (live_any _).mono ?_
  rintro e w1 ⟨rfl, hb⟩
  have HB := Lib.hid hb
  clear hb
  go_wp2_with fail
  go_ret
  exact ⟨rfl, HB.out⟩

theorem true_bad (most : Int) (a : Option Addr) (len cap : Nat) (acts : List ActD) (w : World) (h : ActsAt w.heap.size w a len acts) (hm : muchB acts = false) (hb : most < 0 ∨ 8388608 < most) :
    Calls Try.prog 3 #[.int .i64 most, .slice a len cap] w fun e w' => e = .returned (.bool true) ∧ Below w.heap.size w w' := by
  have H := Lib.hid (much_any a len cap acts w.heap.size w h)
  rw [hm] at H
  clear h hm
  have HN := Lib.hid (new_bad most w hb)
  by_cases h0 : most < 0
  · clear hb
    go_enter Try.func3, Try.ntmps3
    go_wp2_with fail
    refine H.out.mono ?_
    rintro e w1 ⟨rfl, rfl⟩
    go_wp2_with fail
    refine HN.out.mono ?_
    rintro e w1 ⟨rfl, rfl⟩
    go_wp2_with fail
    refine (num_any _ _).mono ?_
    rintro e w1 ⟨rfl, rfl⟩
    go_wp2_with fail
    refine (live_any _).mono ?_
    rintro e w1 ⟨rfl, hb⟩
    have HB := Lib.hid hb
    clear hb
    go_wp2_with fail
    go_ret
    exact ⟨rfl, HB.out⟩
  · have h1 : 8388608 < most := by omega
    clear hb
    go_enter Try.func3, Try.ntmps3
    go_wp2_with fail
    refine H.out.mono ?_
    rintro e w1 ⟨rfl, rfl⟩
    go_wp2_with fail
    refine HN.out.mono ?_
    rintro e w1 ⟨rfl, rfl⟩
    go_wp2_with fail
    refine (num_any _ _).mono ?_
    rintro e w1 ⟨rfl, rfl⟩
    go_wp2_with fail
    refine (live_any _).mono ?_
    rintro e w1 ⟨rfl, hb⟩
    have HB := Lib.hid hb
    clear hb
    go_wp2_with fail
    go_ret
    exact ⟨rfl, HB.out⟩

/-- what stands at each round's head -/
def Head (w : World) (C M : Nat) (most : Int) (acts : List ActD) (k : Nat) (wr : World) : Prop :=
  ∃ L D n h m, CacheAt w.heap.size wr C M n most h m L D ∧ (n ≤ k ∧ L.length ≤ k) ∧ 0 ≤ h ∧ h ≤ k ∧ 0 ≤ m ∧ m ≤ k ∧ Inv acts k most L ∧ Fr w.heap.size w wr

theorem get_found {B : Nat} {w : World} {C M n : Nat} {most hits misses : Int} {L : List Ent} {D : DataW Unit} (h : CacheAt B w C M n most hits misses L D) (hh : 0 ≤ hits ∧ hits ≤ 1000000) {x : Ent} (he : x ∈ L) (hx : x.bs.length ≤ 1000000) {k : Int} (hk : x.key = k)
    (hrun : (Instr.lookup 52 (.map (some M)) (.int .i64 k) true).run Try.prog w = .ok (.tuple #[.pointer (some ⟨x.E, 0, none⟩), .bool true]) w) :
    Calls Try.prog 13 #[.pointer (some ⟨C, 0, none⟩), .int .i64 k] w (HitPost B C M n most hits misses L x w) := by
  subst hk; exact get_hit h hh he hx hrun

theorem box_cells {w : World} {A : Nat} {d ky : Int} {v : Value} (h : w.heap[A]? = some (.cells #[.int .i64 d, .int .i64 ky, v] 32 (0, 0))) :
    w.cell? ⟨A, 0, none⟩ = some (.int .i64 d) ∧ w.cell? ⟨A, 1, none⟩ = some (.int .i64 ky) ∧ w.cell? ⟨A, 2, none⟩ = some v := by
  refine ⟨?_, ?_, ?_⟩ <;> (unfold World.cell?; rw [h]; rfl)

theorem conv_row {w : World} {b0 : Nat} {a : Option Addr} {l c : Nat} {bs : List Int} (h : w.ownsRow b0 5 1 (.slice a l c) bs.length (bs.map (Value.int .u8))) : (convert 30 9 (.slice a l c)).run Try.prog w = .ok (.string (strOfNums bs)) w := by
  have h0 := h
  rcases h.2 with ⟨h1, h2⟩ | ⟨g, cap, cur, h1, _⟩
  · injection h1 with e1 e2 e3
    subst e1 e2 e3
    exact conv_in (B := 0) ⟨h2, .inl ⟨rfl, rfl, rfl⟩⟩
  · injection h1 with e1 e2 e3
    subst e1 e2 e3
    exact conv_in (B := g + 1) ⟨rfl, .inr ⟨_, rfl, .inr ⟨g, 0, rfl, by omega, fun j hj => by
      have := h0.cells (g := g) rfl j (.int .u8 (bs.getD j 0)) (by rw [List.getElem?_map, List.getElem?_eq_getElem hj]; simp [List.getElem?_eq_getElem hj])
      rwa [addr_add] at this⟩⟩⟩

/-- behind the first test of a round -/
def Mid (B C M n : Nat) (most h m : Int) (nl : Nat) (acts : List ActD) (k : Nat) (x : ActD) (wa wx : World) : Prop :=
  (x.d = 1 → ActPost B C M n most h m nl acts k x wa wx) ∧ (x.d ≠ 1 → wa = wx)

set_option maxRecDepth 100000 in
set_option maxHeartbeats 3200000 in
theorem true_loop (most : Int) (a : Option Addr) (len cap : Nat) (acts : List ActD) (w : World) (h : ActsAt w.heap.size w a len acts) (hm : muchB acts = false) (h0 : 0 ≤ most) (hmost : most ≤ 8388608) :
    Calls Try.prog 3 #[.int .i64 most, .slice a len cap] w fun e w' => e = .returned (.bool true) ∧ Below w.heap.size w w' := by
  have H := Lib.hid (much_any a len cap acts w.heap.size w h)
  rw [hm] at H
  have HN := Lib.hid (new_ok most w h0 hmost)
  have HA := Lib.hid h
  have h80 : len ≤ 80 := by
    have := h.alen
    unfold muchB at hm
    simp at hm
    omega
  have HBL : Hid (∀ x ∈ acts, x.bl ≤ 2000) := by
    refine Lib.hid (fun x hx => ?_)
    unfold muchB at hm
    simp at hm
    exact hm.2 x hx
  have HL := Lib.hid h.alen
  clear h hm
  go_enter Try.func3, Try.ntmps3
  go_wp2_with fail
  refine H.out.mono ?_
  rintro e w1 ⟨rfl, rfl⟩
  go_wp2_with fail
  refine HN.out.mono ?_
  rintro e w1 ⟨C, M, rfl, hc1, hb1⟩
  have HS : Hid (Head w C M most acts 0 w1) := Lib.hid ⟨[], _, 0, 0, 0, hc1, ⟨by omega, Nat.le_refl _⟩, by omega, by omega, by omega, by omega, ⟨h0, fun e he => by cases he⟩, ⟨hb1, (Fr.of_below hb1 (Nat.le_refl _)).other⟩⟩
  clear hc1 hb1
  go_wp2_with fail
  refine (num_any _ _).mono ?_
  rintro e w1' ⟨rfl, rfl⟩
  go_wp2_with fail
  go_loopg [7] len (fun g i wr => ∃ k : Nat, k + g = len ∧ i = .int .i64 k ∧ Hid (Head w C M most acts k wr))
  case atStart => exact ⟨0, by omega, rfl, HS⟩
  case round =>
    obtain ⟨k, hkg, rfl, hH⟩ := hrel
    by_cases hlt : k < len
    · obtain ⟨L, D, n, h, m, hc, ⟨hn, hLk⟩, hh0, hh1, hm0, hm1, hI, hF⟩ := hH.out
      have hk' : k < acts.length := by rw [HL.out]; exact hlt
      have hAr := HA.out.below hF.below
      rcases HA.out.cells with hz | ⟨b, off, rfl, hb, hcells⟩
      · omega
      have HCW : Hid (∀ w', Below w.heap.size w w' → ∀ i (h : i < acts.length), w'.cell? ⟨b, off + i * 3, none⟩ = some (.int .i64 acts[i].d) ∧ w'.cell? ⟨b, off + i * 3 + 1, none⟩ = some (.int .i64 acts[i].k) ∧ w'.cell? ⟨b, off + i * 3 + 2, none⟩ = some (.slice acts[i].ba acts[i].bl acts[i].bc)) :=
        Lib.hid (fun w' hbl i hi => ⟨(hbl.cell (by exact hb)).trans (hcells i hi).1, (hbl.cell (by exact hb)).trans (hcells i hi).2.1, (hbl.cell (by exact hb)).trans (hcells i hi).2.2⟩)
      have c0 := (HCW.out wr hF.below k hk').1
      have c1 := (HCW.out wr hF.below k hk').2.1
      have c2 := (HCW.out wr hF.below k hk').2.2
      have hx : acts[k]? = some acts[k] := List.getElem?_eq_getElem hk'
      have hok := hAr.ok _ (List.getElem_mem hk')
      have hbl := HBL.out _ (List.getElem_mem hk')
      have HX := Lib.hid hx
      have HOK := Lib.hid hok
      have HC := Lib.hid hc
      have HI := Lib.hid hI
      have HF := Lib.hid hF
      clear hcells hAr hx hok hc hI hF hH
      generalize hxx : acts[k] = x at *
      obtain ⟨d, ky, ba, bl, bc, bs⟩ := x
      have HXX := Lib.hid hxx
      clear hxx
      dsimp only at c0 c1 c2 hbl
      go_upto_if 50 with (fail)
      obtain ⟨wa, hwa⟩ : ∃ wa, Hid (wr.alloc (.cells #[.int .i64 d, .int .i64 ky, .slice ba bl bc] 32) = wa) := ⟨_, Lib.hid rfl⟩
      rw [hwa.out]
      have q0 : wa.cell? ⟨wr.heap.size, 0, none⟩ = some (.int .i64 d) := by rw [← hwa.out]; simp [World.cell?_alloc_new]
      have q1 : wa.cell? ⟨wr.heap.size, 1, none⟩ = some (.int .i64 ky) := by rw [← hwa.out]; simp [World.cell?_alloc_new]
      have q2 : wa.cell? ⟨wr.heap.size, 2, none⟩ = some (.slice ba bl bc) := by rw [← hwa.out]; simp [World.cell?_alloc_new]
      have HCa : Hid (CacheAt w.heap.size wa C M n most h m L D) := by rw [← hwa.out]; exact Lib.hid (HC.out.ext (Ext.of_below ((Below.refl _ _).alloc (Nat.le_refl _) _)))
      have HFa : Hid (Fr w.heap.size w wa) := by
        rw [← hwa.out]
        exact Lib.hid (HF.out.trans (Fr.of_below ((Below.refl _ _).alloc (Nat.le_refl _) _) HF.out.below.size))
      have HBX : Hid (wa.heap[wr.heap.size]? = some (.cells #[.int .i64 d, .int .i64 ky, .slice ba bl bc] 32 (0, 0))) := by rw [← hwa.out]; exact Lib.hid (alloc_at _ _)
      have HOKa : Hid (ActOk w.heap.size wa ⟨d, ky, ba, bl, bc, bs⟩) := by
        rw [← hwa.out]; exact Lib.hid (HOK.out.below ((Below.refl _ _).alloc HF.out.below.size _))
      generalize hA : wr.heap.size = A at *
      have HA' := Lib.hid hA
      clear hA
      go_cut [] (fun wx => Mid w.heap.size C M n most h m L.length acts k ⟨d, ky, ba, bl, bc, bs⟩ wa wx)
      case first =>
        by_cases hd : d = 1
        · subst hd
          go_wp2_with fail
          refine (act_put HCa.out h0 hmost (by omega) HI.out HX.out rfl (by show bl ≤ 1000000; omega) HOKa.out).mono ?_
          rintro e wx ⟨⟨v, rfl⟩, hp⟩
          have HP := Lib.hid hp
          clear hp
          go_wp2_with fail
          go_meet
          exact ⟨fun _ => HP.out, fun e => absurd rfl e⟩
        · have hd' : (d == 1) = false := by rw [beq_eq_false_iff_ne]; exact hd
          have HD := Lib.hid hd
          clear hd
          go_wp2_with fail
          go_meet
          exact ⟨fun e => absurd e HD.out, fun _ => rfl⟩
      case rest =>
        have p : Hid (wc.heap[A]? = some (.cells #[.int .i64 d, .int .i64 ky, .slice ba bl bc] 32 (0, 0))) := by
          by_cases hd : d = 1
          · obtain ⟨_, _, _, _, _, hf, _⟩ := hcut.1 hd
            exact Lib.hid (hf.other _ _ _ _ HBX.out (by decide) (by decide))
          · rw [← hcut.2 hd]; exact HBX
        have p0 : wc.cell? ⟨A, 0, none⟩ = some (.int .i64 d) := by have := p.out; simp [World.cell?, this]
        have p1 : wc.cell? ⟨A, 1, none⟩ = some (.int .i64 ky) := by have := p.out; simp [World.cell?, this]
        clear q0 q1 q2
        go_upto_if 59 with (fail)
        go_cut [] (fun wx => Hid (ActPost w.heap.size C M n most h m L.length acts k ⟨d, ky, ba, bl, bc, bs⟩ wa wx))
        case first =>
          by_cases hd : d = 1
          · subst hd
            have hcut' := hcut.1 rfl
            have HP := Lib.hid hcut'
            clear hcut hcut'
            go_wp2_with fail
            go_meet
            exact HP
          · have hcut' := hcut.2 hd
            subst hcut'
            by_cases hd2 : d = 2
            · subst hd2
              go_wp2_with fail
              refine (act_drop HCa.out hmost HI.out HX.out rfl HOKa.out).mono ?_
              rintro e wx ⟨rfl, hp⟩
              have HP := Lib.hid hp
              clear hp
              go_wp2_with fail
              go_meet
              exact HP
            · have hd' : (d == 2) = false := by rw [beq_eq_false_iff_ne]; exact hd2
              have HP : Hid (ActPost w.heap.size C M n most h m L.length acts k ⟨d, ky, ba, bl, bc, bs⟩ wa wa) := Lib.hid ⟨L, D, n, ⟨by omega, by omega⟩, HCa.out, Fr.refl _ _, HI.out.other HX.out ⟨hd, hd2⟩, fun e => absurd e hd⟩
              clear hd hd2 hcut
              go_wp2_with fail
              go_meet
              exact HP
        case rest =>
          obtain ⟨L1, D1, n1, ⟨hn1, hL1⟩, hc1, hf1, hI1, hK1⟩ := hcut.out
          have r := hf1.other _ _ _ _ HBX.out (by decide) (by decide)
          have HBc := Lib.hid r
          obtain ⟨r0, r1, r2⟩ := box_cells r
          have HLK := Lib.hid (hc1.look HOKa.out.wk)
          have ht := hI1.1
          obtain ⟨t1, ht1⟩ : ∃ t, Hid (total L1 = t) := ⟨_, Lib.hid rfl⟩
          rw [ht1.out] at ht
          have HB := Lib.hid (bytes_any hc1)
          rw [ht1.out] at HB
          have HC1 := Lib.hid hc1
          have HF1 := Lib.hid (HFa.out.trans hf1)
          have HI1 := Lib.hid hI1
          have HK1 := Lib.hid hK1
          clear r hc1 hf1 hI1 hK1 hcut p p0 p1
          go_wp2_with fail
          refine HB.out.mono ?_
          rintro e wb ⟨rfl, rfl⟩
          go_wp2_with fail
          rcases HLK.out with ⟨hany, v, hrun⟩ | ⟨e0, he0, hk0, hrun⟩
          · refine (get_miss HC1.out ⟨hm0, by omega⟩ hrun).mono ?_
            rintro e wg ⟨rfl, hcg, hfg⟩
            obtain ⟨s0, s1, s2⟩ := box_cells (hfg.other _ _ _ _ HBc.out (by decide) (by decide))
            have HNK : Hid (∀ e ∈ L1, e.key ≠ ky) := Lib.hid (fun e he hk => by have := List.any_eq_false.1 hany e he; simp [hk] at this)
            have HCg := Lib.hid hcg
            have HFg := Lib.hid (HF1.out.trans hfg)
            clear hcg hfg hrun hany
            by_cases hd : d = 1
            · have hb : most < (bl : Int) := by
                have := HK1.out hd
                dsimp only at this
                by_cases hle : (bl : Int) ≤ most
                · obtain ⟨e, he, hk⟩ := this hle
                  exact absurd hk (HNK.out e he)
                · omega
              subst hd
              go_wp2_with fail
              go_roundg (len - (k + 1))
              case measure => omega
              case rel => exact ⟨k + 1, by omega, by go_num, Lib.hid ⟨L1, D1, n1, h, m + 1, HCg.out, ⟨by omega, by omega⟩, by omega, by omega, by omega, by omega, HI1.out, HFg.out⟩⟩
            · have hd' : (d == 1) = false := by rw [beq_eq_false_iff_ne]; exact hd
              clear hd
              go_wp2_with fail
              go_roundg (len - (k + 1))
              case measure => omega
              case rel => exact ⟨k + 1, by omega, by go_num, Lib.hid ⟨L1, D1, n1, h, m + 1, HCg.out, ⟨by omega, by omega⟩, by omega, by omega, by omega, by omega, HI1.out, HFg.out⟩⟩
          · obtain ⟨jj, y, hj1, hj2, hj3, hj4⟩ := HI1.out.2 e0 he0
            have hjk := lastOf_lt acts (k + 1) e0.key
            rw [hj1] at hjk
            rw [hk0] at hj1
            have hjl : jj < acts.length := (List.getElem?_eq_some_iff.1 hj2).1
            have hymem : y ∈ acts := List.mem_of_getElem? hj2
            have hlen0 : e0.bs.length ≤ 1000000 := by
              have h1 := (HA.out.ok y hymem).b.1
              have h2 := HBL.out y hymem
              rw [← hj4]; omega
            refine (get_found HC1.out ⟨hh0, by omega⟩ he0 hlen0 hk0 hrun).mono ?_
            rintro e wg ⟨vg, rfl, hrow, ⟨D2, hc2⟩, hf2⟩
            have hvg : ∃ a' l' c', vg = .slice a' l' c' := by
              rcases hrow.2 with ⟨h1, _⟩ | ⟨g, cap, cur, h1, _⟩
              · exact ⟨_, _, _, h1⟩
              · exact ⟨_, _, _, h1⟩
            obtain ⟨a', l', c', rfl⟩ := hvg
            have HR := Lib.hid hrow
            have HJ1 := Lib.hid hj1
            have HJ2 := Lib.hid hj2
            have HJ4 := Lib.hid hj4
            have HK0 := Lib.hid hk0
            have HE0 := Lib.hid he0
            have HI2 := Lib.hid (HI1.out.front he0 HC1.out.keys)
            have HC2 := Lib.hid hc2
            have HFg := Lib.hid (HF1.out.trans hf2)
            have HBg := Lib.hid (hf2.other _ _ _ _ HBc.out (by decide) (by decide))
            have HL2 := Lib.hid (front_len he0 HC1.out.keys)
            obtain ⟨L2, hL2⟩ : ∃ L2, Hid (e0 :: L1.filter (fun y => y.key != e0.key) = L2) := ⟨_, Lib.hid rfl⟩
            have HKR : Hid (∃ K, L2.map (fun x => Value.int .i64 x.key) = .int .i64 ky :: K) := by
              rw [← hL2.out]; exact Lib.hid ⟨_, by rw [List.map_cons, hk0]⟩
            rw [hL2.out] at HL2 HI2 HC2
            clear hrow hj1 hj2 hj4 hk0 he0 hc2 hf2 hrun
            go_wp2_with fail
            go_loopg [11, 12] (k + 1) (fun g l j wy => ∃ q : Nat, q + g = k + 1 ∧ j = .int .i64 q ∧ l = .int .i64 (lastOf acts q ky) ∧ Hid (∃ mm, wy = wg.drewN mm))
            case atStart => exact ⟨0, by omega, rfl, rfl, Lib.hid ⟨0, rfl⟩⟩
            case round =>
              obtain ⟨q, hqg, rfl, rfl, HDR⟩ := hrel
              have HEX : Hid (Ext wg wr ∧ Fr w.heap.size wg wr) := by
                obtain ⟨mm, hmm⟩ := HDR.out
                rw [hmm]
                exact Lib.hid ⟨ext_drewN _ _, (Fr.refl _ _).drewN _⟩
              have HBW := Lib.hid (HFg.out.below.trans HEX.out.2.below)
              obtain ⟨s0, s1, s2⟩ := box_cells (HEX.out.1 _ _ HBg.out)
              by_cases hql : q < k + 1
              · have hqa : q < acts.length := by omega
                obtain ⟨x0, x1, x2⟩ := HCW.out wr HBW.out q hqa
                have HXQ : Hid (acts[q]? = some acts[q]) := Lib.hid (List.getElem?_eq_getElem hqa)
                have hbq := lastOf_lt acts q ky
                have hqlen : q < len := by omega
                have HMISS : Hid (isOp acts[q] ky = false → lastOf acts q ky = lastOf acts (q + 1) ky) := Lib.hid (fun h => (lastOf_miss HXQ.out h).symm)
                have HHIT : Hid (isOp acts[q] ky = true → (q : Int) = lastOf acts (q + 1) ky) := Lib.hid (fun h => (lastOf_hit HXQ.out h).symm)
                generalize lastOf acts q ky = lq at *
                clear x2 HXQ
                generalize acts[q] = xq at *
                obtain ⟨dq, kq, _, _, _, _⟩ := xq
                dsimp only at x0 x1
                by_cases hkq : kq = ky
                · have b1 : (kq == ky) = true := beq_iff_eq.2 hkq
                  by_cases hd1 : dq = 1
                  · have b2 : (dq == 1) = true := beq_iff_eq.2 hd1
                    have HV := Lib.hid (HHIT.out (by simp [isOp, hkq, hd1]))
                    clear hkq hd1 HMISS HHIT
                    go_wp2_with fail
                    go_quiet (fail)
                    all_goals (try go_wp2_with fail)
                    all_goals go_roundg (k - q)
                    case measure => omega
                    case rel => exact ⟨q + 1, by omega, by go_num, by rw [← HV.out], Lib.hid (by obtain ⟨mm, hmm⟩ := HDR.out; rw [hmm]; exact ⟨_, by simp; rfl⟩)⟩
                  · have b2 : (dq == 1) = false := beq_eq_false_iff_ne.2 hd1
                    by_cases hd2 : dq = 2
                    · have b3 : (dq == 2) = true := beq_iff_eq.2 hd2
                      have HV := Lib.hid (HHIT.out (by simp [isOp, hkq, hd2]))
                      clear hkq hd1 hd2 HMISS HHIT
                      go_wp2_with fail
                      go_quiet (fail)
                      all_goals (try go_wp2_with fail)
                      all_goals go_roundg (k - q)
                      case measure => omega
                      case rel => exact ⟨q + 1, by omega, by go_num, by rw [← HV.out], Lib.hid (by obtain ⟨mm, hmm⟩ := HDR.out; rw [hmm]; exact ⟨_, by simp; rfl⟩)⟩
                    · have b3 : (dq == 2) = false := beq_eq_false_iff_ne.2 hd2
                      have HV := Lib.hid (HMISS.out (by simp [isOp, hd1, hd2]))
                      clear hkq hd1 hd2 HMISS HHIT
                      go_wp2_with fail
                      go_quiet (fail)
                      all_goals (try go_wp2_with fail)
                      all_goals go_roundg (k - q)
                      case measure => omega
                      case rel => exact ⟨q + 1, by omega, by go_num, by rw [← HV.out], Lib.hid (by obtain ⟨mm, hmm⟩ := HDR.out; rw [hmm]; exact ⟨_, by simp; rfl⟩)⟩
                · have b1 : (kq == ky) = false := beq_eq_false_iff_ne.2 hkq
                  have HV := Lib.hid (HMISS.out (by simp [isOp, hkq]))
                  clear hkq HMISS HHIT
                  go_wp2_with fail
                  go_quiet (fail)
                  all_goals (try go_wp2_with fail)
                  all_goals go_roundg (k - q)
                  case measure => omega
                  case rel => exact ⟨q + 1, by omega, by go_num, by rw [← HV.out], Lib.hid (by obtain ⟨mm, hmm⟩ := HDR.out; rw [hmm]; exact ⟨_, by simp; rfl⟩)⟩
              · obtain rfl : q = k + 1 := by omega
                rw [HJ1.out]
                obtain ⟨x0, x1, x2⟩ := HCW.out wr HBW.out jj hjl
                have hyj : acts[jj] = y := by
                  have := HJ2.out
                  rw [List.getElem?_eq_getElem hjl] at this
                  exact Option.some.inj this
                rw [hyj] at x0 x1 x2
                have hcv2 : ∀ mq, (convert 30 9 (.slice a' l' c')).run Try.prog (wr.drewN mq) = .ok (.string (strOfNums e0.bs)) (wr.drewN mq) := fun mq =>
                  conv_row (w := wr.drewN mq) ((ext_drewN wr mq).row (HEX.out.1.row HR.out))
                have hcv1 : ∀ mq, (convert 30 9 (.slice y.ba y.bl y.bc)).run Try.prog (wr.drewN mq) = .ok (.string (strOfNums e0.bs)) (wr.drewN mq) := fun mq => by
                  rw [← HJ4.out]
                  exact conv_in ((HA.out.ok y hymem).below (below_drewN HBW.out mq)).b
                have hL2k : L2.length ≤ k + 1 := by have := HL2.out; omega
                have hL2p : 0 < L2.length := by rw [← hL2.out]; simp
                have HCK : Hid (∀ mq, Calls Try.prog 14 #[.pointer (some ⟨C, 0, none⟩)] (wr.drewN mq) (KeysPost L2 (wr.drewN mq))) :=
                  Lib.hid (fun mq => keys_any ((HC2.out.ext HEX.out.1).ext (ext_drewN wr mq)) (by omega))
                rw [hj3] at x0
                have hjlen : jj < len := by omega
                clear hyj
                generalize strOfNums e0.bs = S at *
                generalize y.ba = yba at *
                generalize y.bl = ybl at *
                generalize y.bc = ybc at *
                go_wp2_with fail
                go_quiet (fail)
                go_wp2_with fail
                refine (HCK.out _).mono ?_
                rintro e wk ⟨vk, rfl, hrk, hbk⟩
                have hvk : ∃ g c2, vk = .slice (some ⟨g, 0, none⟩) L2.length c2 ∧ wk.cell? ⟨g, 0, none⟩ = some (.int .i64 ky) := by
                  have hrk0 := hrk
                  rcases hrk.2 with ⟨_, h2⟩ | ⟨g, cap2, cur, h1, _⟩
                  · omega
                  · refine ⟨g, cap2, h1, ?_⟩
                    obtain ⟨K, hK⟩ := HKR.out
                    rw [hK] at hrk0
                    have := hrk0.cells (g := g) (by rw [h1]; rfl) 0 (.int .i64 ky) rfl
                    simpa [Addr.add] using this
                obtain ⟨g2, cap2, rfl, z0⟩ := hvk
                have HEk := Lib.hid (Ext.of_below hbk)
                have HFk : Hid (Fr w.heap.size wr wk) := Lib.hid (((Fr.refl _ wr).drewN _).trans (Fr.of_below hbk (by have := HBW.out.size; simpa using this)))
                obtain ⟨z1, z2, z3⟩ := box_cells (HEk.out _ _ ((ext_drewN wr _) _ _ (HEX.out.1 _ _ HBg.out)))
                have HC9 := Lib.hid (((HC2.out.ext HEX.out.1).ext (ext_drewN wr _)).ext HEk.out)
                have hne : ((L2.length : Int) == 0) = false := by rw [beq_eq_false_iff_ne]; omega
                obtain ⟨n2, hn2⟩ : ∃ n2, Hid (L2.length = n2) := ⟨_, Lib.hid rfl⟩
                rw [hn2.out] at hne hL2p hL2k ⊢
                clear hrk hbk x0 x1 x2 s0 s1 s2 hcv1 hcv2
                go_wp2_with fail
                go_quiet (fail)
                all_goals (try go_wp2_with fail)
                all_goals go_roundg (len - (k + 1))
                case measure => omega
                case rel => exact ⟨k + 1, by omega, by go_num, Lib.hid ⟨L2, D2, n1, h + 1, m, HC9.out.ext (ext_drewN _ _), ⟨by omega, by rw [hn2.out]; omega⟩, by omega, by omega, by omega, by omega, HI2.out, (HFg.out.trans HEX.out.2).trans (HFk.out.drewN _)⟩⟩
    · obtain rfl : k = len := by omega
      have HB := Lib.hid (show Below w.heap.size w wr from by obtain ⟨_, _, _, _, _, _, _, _, _, _, _, _, hf⟩ := hH.out; exact hf.below)
      clear hH
      go_wp2_with fail
      refine (live_any _).mono ?_
      rintro e w9 ⟨rfl, hb⟩
      have HB9 := Lib.hid hb
      clear hb
      go_wp2_with fail
      go_ret
      exact ⟨rfl, HB.out.trans (HB9.out.mono HB.out.size)⟩

theorem true_walk (most : Int) (a : Option Addr) (len cap : Nat) (acts : List ActD) (w : World) (h : ActsAt w.heap.size w a len acts) :
    Calls Try.prog 3 #[.int .i64 most, .slice a len cap] w fun e w' => e = .returned (.bool true) ∧ Below w.heap.size w w' := by
  cases hm : muchB acts
  · by_cases h1 : most < 0 ∨ 8388608 < most
    · exact true_bad most a len cap acts w h hm h1
    · exact true_loop most a len cap acts w h hm (by omega) (by omega)
  · exact true_much most a len cap acts w h hm
end Go.Proofs.Ytdodjjnejpdgcaa
