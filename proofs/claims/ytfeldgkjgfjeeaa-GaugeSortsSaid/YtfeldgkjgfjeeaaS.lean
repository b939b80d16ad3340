/- The stable sort as it is called, and Sorted: walks. -/
import Derived.Test.YtfeldgkjgfjeeaaR
namespace Go.Proofs.Ytfeldgkjgfjeeaa
open Go.RowKit Go.Sort Fl
attribute [local go_sem] run_store_float

theorem sort_grown (w : World) (blk off m : Nat) (dk : Array (Nat × Nat)) (os : Array Obj) : w.grownBy (sortWorldK encP 2 w blk off m dk os) (some blk) := by
  refine ⟨rfl, rfl, rfl, ?_, ?_⟩
  · unfold sortWorldK grow putRowK putRow mapBlock Sort.ahead
    simp
  · intro k hk hne
    have hne2 : blk ≠ k := fun e => hne (by rw [e])
    unfold sortWorldK grow putRowK putRow mapBlock Sort.ahead
    simp only [Array.getElem?_append_left, Array.size_modify, hk]
    rw [Array.getElem?_modify, if_neg hne2]

set_option maxRecDepth 100000 in
theorem insertion_none (c : Nat) (W : World) : Calls Try.prog 40 #[.slice none 0 c, .int .i64 0, .int .i64 0, .func (.func 37) #[] #[]] W fun e w' => e = .returned (.tuple #[]) ∧ W = w' := by
  go_enter Try.func40, Try.ntmps40
  go_wp2_with fail
  go_loop [8] (fun i => i = .int .i64 1) (fun _ => 0)
  case atStart => rfl
  case round =>
    subst hrel
    go_wp2_with fail
    go_end0
    exact ⟨rfl, rfl⟩
set_option maxRecDepth 100000 in
theorem stable_none (c : Nat) (W : World) : Calls Try.prog 39 #[.slice none 0 c, .int .i64 0, .func (.func 37) #[] #[]] W fun e w' => e = .returned (.tuple #[]) ∧ W = w' := by
  have HI := Lib.hid (fun W => insertion_none c W)
  go_enter Try.func39, Try.ntmps39
  go_wp2_with fail
  go_loop [7, 8] (fun i j => i = .int .i64 0 ∧ j = .int .i64 20) (fun _ _ => 0)
  case atStart => exact ⟨rfl, rfl⟩
  case round =>
    obtain ⟨rfl, rfl⟩ := hrel
    go_wp2_with fail
    refine (HI.out _).mono ?_
    rintro e w1 ⟨rfl, rfl⟩
    go_wp2_with fail
    go_loop [6] (fun i => i = .int .i64 20) (fun _ => 0)
    case atStart => rfl
    case round =>
      subst hrel
      go_wp2_with fail
      go_end0
      exact ⟨rfl, rfl⟩
theorem sortf_none (c : Nat) (W : World) : Calls Try.prog 36 #[.slice none 0 c, .func (.func 37) #[] #[]] W fun e w' => e = .returned (.tuple #[]) ∧ W = w' := by
  have HI := Lib.hid (fun W => stable_none c W)
  go_enter Try.func36, Try.ntmps36
  go_wp2_with fail
  refine (HI.out _).mono ?_
  rintro e w1 ⟨rfl, rfl⟩
  go_wp2_with fail
  go_end0
  exact ⟨rfl, rfl⟩
theorem sortf_any (blk cap : Nat) (d : Array (Nat × Nat)) (w : World) (hH : HoldsK encP 2 w blk 0 d) (hblk : blk < w.heap.size) (hsz : d.size ≤ 1000) :
    Calls Try.prog 36 #[.slice (some ⟨blk, 0, none⟩) d.size cap, .func (.func 37) #[] #[]] w (Arr (Merged 0 d.size d) blk 0 w) := by
  have HI := Lib.hid (stable_any blk 0 cap d d w w (rowP hH hblk) rfl (SWK.start hH) hsz)
  generalize d.size = n at *
  clear hH
  go_enter Try.func36, Try.ntmps36
  go_wp2_with fail
  refine HI.out.mono ?_
  rintro e w1 ⟨rfl, d', hm, hs⟩
  have HM := Lib.hid hm
  have HS := Lib.hid hs
  clear hm hs
  go_wp2_with fail
  go_end0
  exact ⟨rfl, d', HM.out, HS.out⟩

/-! the places of a list of floats -/
def plc (x : Nat) : Nat × Nat := (key x, x)
def plRow (xs : List Nat) : List Value := xs.flatMap (fun x => encP (plc x))
theorem plRow_len (xs : List Nat) : (plRow xs).length = xs.length * 2 := by
  induction xs with
  | nil => rfl
  | cons x xs ih =>
    show (encP (plc x) ++ plRow xs).length = _
    rw [List.length_append, ih, encP_len, List.length_cons]; omega
theorem plRow_snoc (xs : List Nat) (x : Nat) : plRow (xs ++ [x]) = plRow xs ++ encP (plc x) := by simp [plRow]
theorem plRow_at : ∀ (xs : List Nat) (i c : Nat) (h : i < xs.length), c < 2 → (plRow xs)[i * 2 + c]? = (encP (plc xs[i]))[c]?
  | x :: xs, 0, c, _, hc => by
    show (encP (plc x) ++ plRow xs)[0 * 2 + c]? = _
    rw [List.getElem?_append_left (by rw [encP_len]; omega)]
    simp
  | x :: xs, i + 1, c, h, hc => by
    show (encP (plc x) ++ plRow xs)[(i + 1) * 2 + c]? = _
    rw [List.getElem?_append_right (by rw [encP_len]; omega), encP_len, show (i + 1) * 2 + c - 2 = i * 2 + c by omega]
    exact plRow_at xs i c (by simpa using h) hc
theorem holds_row {w : World} {B g cap : Nat} {xs : List Nat} (h : w.ownsRow B 49 2 (.slice (some ⟨g, 0, none⟩) xs.length cap) xs.length (plRow xs)) : HoldsK encP 2 w g 0 (xs.map plc).toArray := by
  intro t ht
  have ht' : t < xs.length * 2 := by simpa using ht
  refine ⟨?_, by rw [Nat.zero_add]; exact h.frozenAt t⟩
  rw [Nat.zero_add, h.cellAt t ht', get_flatK _ _ _ t (by simpa using ht')]
  have hi : t / 2 < xs.length := by omega
  have e : t = t / 2 * 2 + t % 2 := by omega
  have k := plRow_at xs (t / 2) (t % 2) hi (by omega)
  rw [← e] at k
  rw [k]
  have e2 : (xs.map plc).toArray[t / 2]! = plc xs[t / 2] := by simp [hi]
  rw [e2]
  have hl : t % 2 < (encP (plc xs[t / 2])).length := by rw [encP_len]; omega
  simp [hl]

theorem info49 : (Try.prog.info? 49).map (fun i => (i.zero, i.size, i.bytes)) = some (some (.agg #[.int .u64 0, .float .f64 0]), 2, 16) := by kernel_rfl

/-- a list of floats in memory -/
def FRow (w : World) (a : Option Addr) (n : Nat) (xs : List Nat) : Prop :=
  xs.length = n ∧ (∀ x ∈ xs, x < 18446744073709551616) ∧ ∀ j (_ : j < xs.length), ∃ b, a = some ⟨b, 0, none⟩ ∧ w.cell? ⟨b, j, none⟩ = some (.float .f64 xs[j])

/-- what a sorted list has -/
def SortPost (xs : List Nat) (w : World) (e : Ending) (w' : World) : Prop :=
  ∃ (ys : List Nat) (v : Value), e = .returned v ∧ w'.ownsRow w.heap.size 24 1 v xs.length (ys.map fl) ∧ ys.Perm xs ∧ (∀ i j (hi : i < ys.length) (hj : j < ys.length), i < j → ¬ key ys[j] < key ys[i]) ∧ Below w.heap.size w w'

theorem sorted_plain {xs : List Nat} {d' : Array (Nat × Nat)} (h : Merged 0 (xs.map plc).toArray.size (xs.map plc).toArray d') :
    ∃ ys : List Nat, d' = (ys.map plc).toArray ∧ ys.length = xs.length ∧ ys.Perm xs ∧ (∀ i j (hi : i < ys.length) (hj : j < ys.length), i < j → ¬ key ys[j] < key ys[i]) := by
  obtain ⟨⟨hs, _, hp⟩, ho⟩ := h
  have hsz : (xs.map plc).toArray.size = xs.length := by simp
  rw [hsz] at hp ho
  have e1 : d'.extract 0 xs.length = d' := by rw [← hsz, ← hs]; exact Array.extract_size
  have e2 : (xs.map plc).toArray.extract 0 xs.length = (xs.map plc).toArray := by rw [← hsz]; exact Array.extract_size
  rw [e1, e2] at hp
  have hall : ∀ p ∈ d'.toList, p = plc p.2 := fun p hpp => by
    have := hp.mem_iff.1 hpp
    obtain ⟨x, _, rfl⟩ := List.mem_map.1 (by simpa using this)
    rfl
  have hd : d' = ((d'.toList.map (·.2)).map plc).toArray := by
    apply Array.ext'
    rw [List.map_map]
    exact ((List.map_congr_left (fun p hpp => (hall p hpp).symm)).trans (List.map_id _)).symm
  have hperm : (d'.toList.map (·.2)).Perm xs := by
    have := hp.map (·.2)
    rw [show ((xs.map plc).toArray.toList.map (·.2)) = xs from by rw [List.map_map]; exact (List.map_congr_left (fun x _ => rfl)).trans (List.map_id _)] at this
    exact this
  have hl : (d'.toList.map (·.2)).length = xs.length := hperm.length_eq
  refine ⟨d'.toList.map (·.2), hd, hl, hperm, fun i j hi hj hij => ?_⟩
  have k := ho i j (Nat.zero_le _) hij (by omega)
  rw [ltP, decide_eq_false_iff_not] at k
  have g : ∀ t (ht : t < (d'.toList.map (·.2)).length), (d'[t]!).1 = key (d'.toList.map (·.2))[t] := fun t ht => by
    have ht2 : t < d'.size := by simpa using ht
    have hm : d'[t] ∈ d'.toList := by simp
    have := hall _ hm
    rw [getElem!_pos d' t ht2, this]
    simp [plc]
  rw [g j hj, g i hi] at k
  exact k

theorem cell_two_new (w : World) (u v : Value) (t : TypeId) : ∀ j x, [u, v][j]? = some x → (w.alloc (.cells #[u, v] t)).cell? ((⟨w.heap.size, 0, none⟩ : Addr).add j) = some x := by
  intro j x hx
  have h2 := heap_alloc_new w (.cells #[u, v] t)
  match j, hx with
  | 0, hx => simp at hx; subst hx; unfold World.cell?; simp only [Addr.add, if_pos, h2]; rfl
  | 1, hx => simp at hx; subst hx; unfold World.cell?; simp only [Addr.add, Nat.one_ne_zero, if_false, h2]; rfl
theorem cell_one_at {w : World} {g : Nat} {v : Value} {t : TypeId} (hg : g = w.heap.size) : ∀ j x, [v][j]? = some x → (w.alloc (.cells #[v] t)).cell? ((⟨g, 0, none⟩ : Addr).add j) = some x := by
  intro j x hx
  subst hg
  have h2 := heap_alloc_new w (.cells #[v] t)
  match j, hx with
  | 0, hx => simp at hx; subst hx; unfold World.cell?; simp only [Addr.add, if_pos, h2]; rfl
theorem row_base {W : World} {B B' e size : Nat} {v : Value} {n : Nat} {xs : List Value} (h : W.ownsRow B e size v n xs) (hb : B' ≤ B) : W.ownsRow B' e size v n xs := by
  refine ⟨h.1, ?_⟩
  rcases h.2 with h1 | ⟨g, cap, cur, h1, h2, h3⟩
  · exact .inl h1
  · exact .inr ⟨g, cap, cur, h1, by omega, h3⟩
theorem row_new {N : Nat} {w wr w1 : World} {v : Value} {n e size : Nat} {xs : List Value} {tmp : Obj} (hr : wr.ownsRow N e size v n xs) (hb : Below N w wr) (hg : (wr.alloc tmp).grownBy w1 v.ownBlock) (hN : N ≤ wr.heap.size) : Below N w w1 :=
  hb.trans (((Below.refl N wr).alloc hN tmp).grown hg (by simp; omega) (fun j ej => (hr.lt j ej).1))

/-- the places of these floats lie in a block -/
def PAt (w : World) (g : Nat) (ys : List Nat) : Prop := ∀ i (h : i < ys.length), w.cell? ⟨g, i * 2, none⟩ = some (.int .u64 (key ys[i] : Int)) ∧ w.cell? ⟨g, i * 2 + 1, none⟩ = some (.float .f64 ys[i])
theorem PAt.below {w w' : World} {g : Nat} {ys : List Nat} (h : PAt w g ys) (hb : Below w.heap.size w w') : PAt w' g ys := fun i hi => by
  obtain ⟨h1, h2⟩ := h i hi
  exact ⟨(hb.cell (p := ⟨g, i * 2, none⟩) (block_of_cell h1)).trans h1, (hb.cell (p := ⟨g, i * 2 + 1, none⟩) (block_of_cell h1)).trans h2⟩
theorem PAt.of {w0 w : World} {g : Nat} {ys : List Nat} {d0 : Array (Nat × Nat)} (S : SWK encP 2 w0 g 0 (ys.map plc).toArray w) (R : RowK encP 2 w0 g 0 d0) (hs : (ys.map plc).toArray.size = d0.size) : PAt w g ys := fun i hi => by
  have hi2 : i < (ys.map plc).toArray.size := by simpa using hi
  obtain ⟨⟨h1, h2⟩, _⟩ := place_cells S R hs i hi2
  rw [Nat.zero_add] at h1 h2
  rw [show (ys.map plc).toArray[i]! = plc ys[i] from by simp [hi]] at h1 h2
  exact ⟨h1, h2⟩

set_option maxHeartbeats 4000000 in
set_option maxRecDepth 100000 in
theorem sorted_any (a : Option Addr) (n cap : Nat) (xs : List Nat) (w : World) (h : FRow w a n xs) (hn : n ≤ 1000) : Calls Try.prog 29 #[.slice a n cap] w (SortPost xs w) := by
  obtain ⟨i0, hi, hz0, hz1, hz2⟩ := info_parts info49
  obtain ⟨i4, hi4, h4z0, h4z1, h4z2⟩ := info_parts info24
  have HF := Lib.hid h
  have mixed : Try.prog.follows .mixedOrders = true := by kernel_rfl
  clear h
  go_enter Try.func29, Try.ntmps29
  go_wp2_with fail
  go_loopg [3, 11] n (fun g v i wr => ∃ k : Nat, k + g = n ∧ i = .int .i64 k ∧ Hid (wr.ownsRow w.heap.size 49 2 v k (plRow (xs.take k))) ∧ Hid (Below w.heap.size w wr))
  case atStart => exact ⟨0, by omega, rfl, Lib.hid (World.ownsRow_nil _ _ _ _), Lib.hid (Below.refl _ _)⟩
  case round =>
    obtain ⟨k, hk, rfl, HO, HB⟩ := hrel
    by_cases hlt : k < n
    · have hkx : k < xs.length := by rw [HF.out.1]; exact hlt
      obtain ⟨b, rfl, hc⟩ := HF.out.2.2 k hkx
      have hcx : wr.cell? ⟨b, k, none⟩ = some (.float .f64 xs[k]) := (HB.out.cell (p := ⟨b, k, none⟩) (block_of_cell hc)).trans hc
      have hx64 : xs[k] < 18446744073709551616 := HF.out.2.1 _ (List.getElem_mem hkx)
      have HK := Lib.hid (fun w => key_any xs[k] hx64 w)
      have HSn : Hid (plRow (xs.take (k + 1)) = plRow (xs.take k) ++ [.int .u64 (key xs[k] : Int), .float .f64 xs[k]]) := Lib.hid (by
        rw [List.take_succ_eq_append_getElem hkx, plRow_snoc]; rfl)
      have hbz := HB.out.size
      clear hc hx64
      generalize xs[k] = x at *
      clear hkx
      generalize key x = kx at *
      go_wp2_with fail
      refine (HK.out _).mono ?_
      rintro e w1 ⟨rfl, rfl⟩
      go_wp2_with ((refine wpList_append_own (o := ⟨some 21, _, _, _, _, _⟩) _ rfl (.tmp 15) (.tmp 20) 47 rfl w.heap.size 49 i0 (.agg #[.int .u64 0, .float .f64 0]) 2 16 Try.underlying47 hi hz0 hz1 hz2 rfl (by decide) _ k (plRow (xs.take k)) rfl (HO.out.alloc _) ⟨wr.heap.size, 0, none⟩ 1 1 [.int .u64 (kx : Int), .float .f64 x] rfl rfl ?c1 ?c2 (by unfold maxLen; omega) (by omega) (by simp; omega) ?_))
      case c1 => exact cell_two_new _ _ _ _
      case c2 => intro u hu; simp at hu; rcases hu with rfl | rfl <;> rfl
      intro v9 w9 hown9 hgrow9 _
      have HO9 := Lib.hid (show w9.ownsRow w.heap.size 49 2 v9 (k + 1) (plRow (xs.take (k + 1))) from by rw [HSn.out]; exact hown9)
      have HB9 := Lib.hid (row_new HO.out HB.out hgrow9 hbz)
      clear hown9 hgrow9
      go_wp2_with fail
      go_roundg (n - (k + 1))
      case measure => omega
      case rel => exact ⟨k + 1, by omega, by go_num, HO9, HB9⟩
    · obtain rfl : k = n := by omega
      have hxl : xs.take k = xs := by rw [List.take_of_length_le (by rw [HF.out.1]; exact Nat.le_refl _)]
      rw [hxl] at HO
      clear hxl
      have hO := HO.out.2
      have HN := Lib.hid HF.out.1
      rcases hO with ⟨hv, hk0⟩ | ⟨g, c2, cur, hv, hg, hcur, hkc, hcm, hcs, htk⟩
      · subst hv
        subst hk0
        have HX : Hid (xs = []) := Lib.hid (List.length_eq_zero_iff.1 HF.out.1)
        go_wp2_with fail
        refine (sortf_none _ _).mono ?_
        rintro e w1 ⟨rfl, rfl⟩
        go_wp2_with fail
        go_loop [6, 27] (fun v i => v = .slice none 0 0 ∧ i = .int .i64 0) (fun _ _ => 0)
        case atStart => exact ⟨rfl, rfl⟩
        case round =>
          obtain ⟨rfl, rfl⟩ := hrel
          go_wp2_with fail
          go_ret
          exact ⟨[], _, rfl, by rw [HN.out]; exact World.ownsRow_nil _ _ _ _, by rw [HX.out], (fun i j hi => by simp at hi), HB.out⟩
      · subst hv
        have hlt2 : g < wr.heap.size := (HO.out.lt g rfl).2
        have hrow : wr.ownsRow w.heap.size 49 2 (.slice (some ⟨g, 0, none⟩) xs.length c2) xs.length (plRow xs) := by rw [HN.out]; exact HO.out
        have hH := holds_row hrow
        have hdz : (xs.map plc).toArray.size = xs.length := by simp
        have HS := sortf_any g c2 (xs.map plc).toArray wr hH hlt2 (by rw [hdz, HN.out]; exact hn)
        have hdz2 : (xs.map plc).toArray.size = k := hdz.trans HN.out
        have HSo : Hid (Calls Try.prog 36 #[.slice (some ⟨g, 0, none⟩) k c2, .func (.func 37) #[] #[]] wr fun e w' => e = .returned (.tuple #[]) ∧ ∃ ys : List Nat, ys.length = k ∧ ys.Perm xs ∧ (∀ i j (hi : i < ys.length) (hj : j < ys.length), i < j → ¬ key ys[j] < key ys[i]) ∧ PAt w' g ys ∧ Below w.heap.size w w') := Lib.hid (by
          rw [hdz2] at HS
          refine HS.mono ?_
          rintro e w' ⟨he, d', hm, hs⟩
          have hm' : Merged 0 (xs.map plc).toArray.size (xs.map plc).toArray d' := by rw [hdz2]; exact hm
          obtain ⟨ys, rfl, hyl, hyp, hyo⟩ := sorted_plain hm'
          refine ⟨he, ys, hyl.trans HN.out, hyp, hyo, PAt.of hs (rowP hH hlt2) (by simp [hyl]), ?_⟩
          obtain ⟨m, os, rfl⟩ := hs
          exact HB.out.grown (sort_grown wr g 0 m _ os) HB.out.size (fun j ej => by injection ej with ej; omega))
        clear HS hH hrow hdz hdz2 hcur hcs htk hcm
        go_wp2_with fail
        refine HSo.out.mono ?_
        rintro e w3 ⟨rfl, ys, hyl, hyp, hyo, hpa, hb3⟩
        have HYL := Lib.hid hyl
        have HYP := Lib.hid hyp
        have HYO := Lib.hid hyo
        have HPA := Lib.hid hpa
        have HB3 := Lib.hid hb3
        clear hyl hyp hyo hpa hb3 HSo
        go_wp2_with fail
        go_loopg [6, 27] k (fun g2 v i wr2 => ∃ q : Nat, q + g2 = k ∧ i = .int .i64 q ∧ Hid (wr2.ownsRow w3.heap.size 24 1 v q ((ys.take q).map fl)) ∧ Hid (Below w3.heap.size w3 wr2))
        case atStart => exact ⟨0, by omega, rfl, Lib.hid (World.ownsRow_nil _ _ _ _), Lib.hid (Below.refl _ _)⟩
        case round =>
          obtain ⟨q, hq, rfl, HO2, HB2⟩ := hrel
          by_cases hlt3 : q < k
          · have hqy : q < ys.length := by rw [HYL.out]; exact hlt3
            obtain ⟨hc1, hc2⟩ := (HPA.out.below HB2.out) q hqy
            have HSn : Hid ((ys.take (q + 1)).map fl = (ys.take q).map fl ++ [fl ys[q]]) := Lib.hid (by
              rw [List.take_succ_eq_append_getElem hqy, List.map_append]; rfl)
            have hbz2 := HB2.out.size
            generalize ys[q] = y at *
            clear hqy
            generalize key y = ky at *
            go_wp2_with ((refine wpList_append_own (o := ⟨some 35, _, _, _, _, _⟩) _ rfl (.tmp 31) (.tmp 34) 35 rfl w3.heap.size 24 i4 (.float .f64 0) 1 8 Try.underlying35 hi4 h4z0 h4z1 h4z2 rfl (by decide) _ q ((ys.take q).map fl) rfl ((HO2.out.alloc _).alloc _) ⟨wr.heap.size + 1, 0, none⟩ 1 1 [fl y] rfl rfl (cell_one_at (by simp)) ?c2 (by unfold maxLen; omega) (by omega) (by simp; omega) ?_))
            case c2 => intro u hu; simp at hu; subst hu; rfl
            intro v9 w9 hown9 hgrow9 _
            have HO9 := Lib.hid (show w9.ownsRow w3.heap.size 24 1 v9 (q + 1) ((ys.take (q + 1)).map fl) from by rw [HSn.out, List.map_take]; exact hown9)
            have HB9 := Lib.hid (row_new (HO2.out.alloc _) (HB2.out.alloc hbz2 _) hgrow9 (by simp; omega))
            clear hown9 hgrow9
            go_wp2_with fail
            go_roundg (k - (q + 1))
            case measure => omega
            case rel => exact ⟨q + 1, by omega, by go_num, HO9, HB9⟩
          · obtain rfl : q = k := by omega
            have HO3 := Lib.hid (show wr.ownsRow w.heap.size 24 1 _ xs.length (ys.map fl) from by
              have h := HO2.out
              rw [List.take_of_length_le (by rw [HYL.out]; exact Nat.le_refl _)] at h
              rw [HN.out]; exact row_base h HB3.out.size)
            have HB4 := Lib.hid (HB3.out.trans (HB2.out.mono HB3.out.size))
            clear HO2
            go_wp2_with fail
            go_ret
            exact ⟨ys, _, rfl, HO3.out, HYP.out, HYO.out, HB4.out⟩
end Go.Proofs.Ytfeldgkjgfjeeaa
