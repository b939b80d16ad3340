/- Any two sorted parts merged in place; a list sorted by chunks: plain facts and the walks. -/
import Derived.Test.YtfeldgkjgfjeeaaQ
namespace Go.Proofs.Ytfeldgkjgfjeeaa
open Go.RowKit Go.Sort Fl
attribute [local go_sem] run_store_float

theorem merge_rec (blk off cap size : Nat) (d0 : Array (Nat × Nat)) (w0 : World) (R : RowK encP 2 w0 blk off d0) (hs : d0.size = size) (hsz : size ≤ 1000) : ∀ n, Rec blk off cap size w0 n
  | 0 => fun a m b dk wk _ _ h => by omega
  | n + 1 => fun a m b dk wk hd S hn ham hmb hb h1 h2 => by
    subst hd
    have ih := merge_rec blk off cap dk.size d0 w0 R hs hsz n
    have IH : Rec blk off cap dk.size w0 (b - a) := fun a' m' b' dk' wk' x1 x2 x3 => ih a' m' b' dk' wk' x1 x2 (by omega)
    by_cases c1 : m = a + 1
    · exact merge_left blk off cap a m b d0 dk w0 wk R hs S c1 hmb hb hsz h2
    · by_cases c2 : b = m + 1
      · exact merge_right blk off cap a m b d0 dk w0 wk R hs S (by omega) c2 hb hsz h1
      · by_cases c3 : m ≤ (a + b) / 2
        · exact merge_low blk off cap a m b d0 dk w0 wk R hs S (by omega) (by omega) hb hsz h1 h2 ((a + b) / 2) a m ((a + b) / 2 + m - 1) (by omega) (by omega) ⟨c3, rfl, rfl⟩ IH
        · exact merge_high blk off cap a m b d0 dk w0 wk R hs S (by omega) (by omega) hb hsz h1 h2 ((a + b) / 2) ((a + b) / 2 + m - b) ((a + b) / 2) ((a + b) / 2 + m - 1) (by omega) (by omega) ⟨by omega, by omega, rfl⟩ IH

/-- from x on, sorted in chunks of s -/
def Blk (s n : Nat) (dk : Array (Nat × Nat)) : Nat → Nat → Prop
  | 0, x => n ≤ x
  | f + 1, x => n ≤ x ∨ (SortedIn (ltOf cfP) x (min (x + s) n) dk ∧ Blk s n dk f (x + s))
theorem Blk.congr {s n : Nat} {dk dk' : Array (Nat × Nat)} : ∀ {f x : Nat}, Blk s n dk f x → (∀ t, x ≤ t → dk'[t]! = dk[t]!) → Blk s n dk' f x
  | 0, _, h, _ => h
  | f + 1, x, h, hc => by
    rcases h with h | ⟨h1, h2⟩
    · exact .inl h
    · exact .inr ⟨sorted_congr h1 (fun t x1 _ => hc t x1), Blk.congr h2 (fun t x1 => hc t (by omega))⟩
theorem Blk.more {s n : Nat} {dk : Array (Nat × Nat)} : ∀ {f x : Nat}, Blk s n dk f x → Blk s n dk (f + 1) x
  | 0, _, h => .inl h
  | f + 1, x, h => by
    rcases h with h | ⟨h1, h2⟩
    · exact .inl h
    · exact .inr ⟨h1, Blk.more h2⟩
theorem Blk.up {s n : Nat} {dk : Array (Nat × Nat)} {f f' x : Nat} (h : Blk s n dk f x) (hf : f ≤ f') : Blk s n dk f' x := by
  induction hf with
  | refl => exact h
  | step _ ih => exact ih.more

/-- what is sorted below a stays so, whatever comes from a on -/
def Pre (s n a : Nat) (dk : Array (Nat × Nat)) : Prop := ∀ dk' : Array (Nat × Nat), (∀ t, t < a → dk'[t]! = dk[t]!) → (∃ f, Blk s n dk' f a) → ∃ f, Blk s n dk' f 0
theorem Pre.start (s n : Nat) (dk : Array (Nat × Nat)) : Pre s n 0 dk := fun _ _ h => h
theorem Pre.step {s n a b : Nat} {dk dk1 : Array (Nat × Nat)} (h : Pre s n a dk) (hb : b = a + s) (hbn : b ≤ n) (hm : Merged a b dk dk1) : Pre s n b dk1 := by
  intro dk' he ⟨f, hf⟩
  refine h dk' (fun t ht => (he t (by omega)).trans (hm.1.2.1 t (.inl ht))) ⟨f + 1, .inr ⟨?_, hb ▸ hf⟩⟩
  rw [← hb, Nat.min_eq_left hbn]
  exact sorted_congr hm.2 (fun t _ ht => he t ht)
theorem Pre.last {s n a : Nat} {dk dk1 : Array (Nat × Nat)} (h : Pre s n a dk) (hn : n ≤ a + s) (he : ∀ t, t < a → dk1[t]! = dk[t]!) (hs : SortedIn (ltOf cfP) a n dk1) : ∃ f, Blk s n dk1 f 0 :=
  h dk1 he ⟨1, .inr ⟨by rw [Nat.min_eq_right hn]; exact hs, hn⟩⟩
theorem Blk.two {s n a : Nat} {dk : Array (Nat × Nat)} (h : ∃ f, Blk s n dk f a) (hs : 0 < s) (hn : a + s < n) : SortedIn (ltOf cfP) a (a + s) dk ∧ SortedIn (ltOf cfP) (a + s) (min (a + s + s) n) dk ∧ ∃ f, Blk s n dk f (a + s + s) := by
  obtain ⟨f, h⟩ := h
  cases f with
  | zero => have h' : n ≤ a := h; omega
  | succ f =>
    rcases h with h | ⟨h1, h2⟩
    · omega
    · rw [Nat.min_eq_left (by omega)] at h1
      cases f with
      | zero => have h' : n ≤ a + s := h2; omega
      | succ f =>
        rcases h2 with h2 | ⟨h3, h4⟩
        · omega
        · exact ⟨h1, h3, f, h4⟩
theorem Blk.head {s n a : Nat} {dk : Array (Nat × Nat)} (h : ∃ f, Blk s n dk f a) (hn : n ≤ a + s) : SortedIn (ltOf cfP) a n dk := by
  obtain ⟨f, h⟩ := h
  have tr : n ≤ a → SortedIn (ltOf cfP) a n dk := fun h p q x y z => by omega
  cases f with
  | zero => exact tr h
  | succ f =>
    rcases h with h | ⟨h1, _⟩
    · exact tr h
    · rwa [Nat.min_eq_right hn] at h1

set_option maxHeartbeats 8000000 in
set_option maxRecDepth 1000000 in
theorem stable_any (blk off cap : Nat) (d0 d : Array (Nat × Nat)) (w0 w : World) (R : RowK encP 2 w0 blk off d0) (hs : d0.size = d.size) (S : SWK encP 2 w0 blk off d w) (hsz : d.size ≤ 1000) :
    Calls Try.prog 39 #[.slice (some ⟨blk, off, none⟩) d.size cap, .int .i64 (d.size : Int), .func (.func 37) #[] #[]] w (Arr (Merged 0 d.size d) blk off w0) := by
  obtain ⟨n, hn⟩ : ∃ n, Hid (d.size = n) := ⟨_, Lib.hid rfl⟩
  have S0 : Aside (SWK encP 2 w0 blk off d w) := S
  have HIns : Hid (∀ (a b : Nat) (dk : Array (Nat × Nat)) (wk : World), dk.size = n → SWK encP 2 w0 blk off dk wk → a ≤ b → b ≤ n →
      Calls Try.prog 40 #[.slice (some ⟨blk, off, none⟩) n cap, .int .i64 a, .int .i64 b, .func (.func 37) #[] #[]] wk (Arr (Merged a b dk) blk off w0)) := Lib.hid (fun a b dk wk h1 h2 h3 h4 => by
    have h := insertion_any blk off cap a b d0 dk w0 wk R (by rw [hs, hn.out, h1]) h2 h3 (by omega) (by rw [h1, ← hn.out]; exact hsz)
    rw [h1] at h; exact h)
  have HMer : Hid (∀ (a m b : Nat) (dk : Array (Nat × Nat)) (wk : World), dk.size = n → SWK encP 2 w0 blk off dk wk → a < m → m < b → b ≤ n → SortedIn (ltOf cfP) a m dk → SortedIn (ltOf cfP) m b dk →
      Calls Try.prog 41 #[.slice (some ⟨blk, off, none⟩) n cap, .int .i64 a, .int .i64 m, .int .i64 b, .func (.func 37) #[] #[]] wk (Arr (Merged a b dk) blk off w0)) := Lib.hid (fun a m b dk wk h1 h2 h3 h4 h5 h6 h7 =>
    merge_rec blk off cap n d0 w0 R (by rw [hs, hn.out]) (by rw [← hn.out]; exact hsz) (b - a + 1) a m b dk wk h1 h2 (by omega) h3 h4 h5 h6 h7)
  rw [hn.out] at hsz ⊢
  have hds0 : Hid (d.size = n) := hn
  clear S R hs
  go_enter Try.func39, Try.ntmps39
  go_wp2_with fail
  go_loopg [7, 8] (n + 20) (fun g sa sb wr => ∃ (a b : Nat) (dk : Array (Nat × Nat)), sa = .int .i64 a ∧ sb = .int .i64 b ∧ a + 20 ≤ b ∧ b ≤ a + 20 ∧ a ≤ n ∧ n - a ≤ g ∧ Aside (SWK encP 2 w0 blk off dk wr) ∧ Hid (dk.size = n ∧ PermIn 0 n d dk ∧ Pre 20 n a dk))
  case atStart => exact ⟨0, 20, d, rfl, rfl, by omega, by omega, by omega, by omega, S0, Lib.hid ⟨hds0.out, permIn_refl _ _ _, Pre.start _ _ _⟩⟩
  case round =>
    clear S0
    obtain ⟨a, b, dk, rfl, rfl, hab, hba, han, hg, S1, HI⟩ := hrel
    by_cases hlt : b ≤ n
    · have HC := Lib.hid (HIns.out a b dk wr HI.out.1 S1.out (by omega) hlt)
      clear S1
      go_wp2_with fail
      refine HC.out.mono ?_
      rintro ee w2 ⟨rfl, d1, hm, hs2⟩
      have S2 : Aside _ := hs2
      have HI2 : Hid (d1.size = n ∧ PermIn 0 n d d1 ∧ Pre 20 n b d1) := Lib.hid ⟨hm.1.1.trans HI.out.1, permIn_trans _ _ _ _ _ HI.out.2.1 (permIn_mono _ _ _ _ _ _ (Nat.zero_le _) hlt (by rw [HI.out.1]; exact Nat.le_refl _) hm.1), HI.out.2.2.step (by omega) hlt hm⟩
      clear hm hs2 HI HC
      go_wp2_with fail
      go_roundg (n - b)
      case measure => omega
      case rel => exact ⟨b, b + 20, d1, rfl, by go_num, by omega, by omega, hlt, Nat.le_refl _, S2, HI2⟩
    · have HC := Lib.hid (HIns.out a n dk wr HI.out.1 S1.out (by omega) (Nat.le_refl _))
      clear S1
      go_wp2_with fail
      refine HC.out.mono ?_
      rintro ee w2 ⟨rfl, d1, hm, hs2⟩
      have S2 : Aside _ := hs2
      have HI2 : Hid (d1.size = n ∧ PermIn 0 n d d1 ∧ ∃ f, Blk 20 n d1 f 0) := Lib.hid ⟨hm.1.1.trans HI.out.1, permIn_trans _ _ _ _ _ HI.out.2.1 (permIn_mono _ _ _ _ _ _ (Nat.zero_le _) (Nat.le_refl _) (by rw [HI.out.1]; exact Nat.le_refl _) hm.1), HI.out.2.2.last (by omega) (fun t ht => hm.1.2.1 t (.inl ht)) hm.2⟩
      clear hm hs2 HI HC
      go_wp2_with fail
      go_loopg [6] n (fun g ss wr => ∃ (s : Nat) (dk : Array (Nat × Nat)), ss = .int .i64 s ∧ 20 ≤ s ∧ s ≤ 4000 ∧ n - s ≤ g ∧ Aside (SWK encP 2 w0 blk off dk wr) ∧ Hid (dk.size = n ∧ PermIn 0 n d dk ∧ ∃ f, Blk s n dk f 0))
      case atStart => exact ⟨20, d1, rfl, Nat.le_refl _, by omega, by omega, S2, HI2⟩
      case round =>
        clear S2 HI2
        obtain ⟨s, dk, rfl, hs20, hs4, hg2, S1, HI⟩ := hrel
        by_cases hlt2 : s < n
        · go_wp2_with fail
          go_loopg [7, 8] n (fun g sa sb wr => ∃ (a b : Nat) (dk : Array (Nat × Nat)), sa = .int .i64 a ∧ sb = .int .i64 b ∧ a + 2 * s ≤ b ∧ b ≤ a + 2 * s ∧ a ≤ n ∧ n - a ≤ g ∧ Aside (SWK encP 2 w0 blk off dk wr) ∧ Hid (dk.size = n ∧ PermIn 0 n d dk ∧ Pre (2 * s) n a dk ∧ ∃ f, Blk s n dk f a))
          case atStart => exact ⟨0, 2 * s, dk, rfl, by go_num, by omega, by omega, by omega, by omega, S1, Lib.hid ⟨HI.out.1, HI.out.2.1, Pre.start _ _ _, HI.out.2.2⟩⟩
          case round =>
            clear S1 HI
            obtain ⟨a, b, dk, rfl, rfl, hab, hba, han, hg3, S1, HI⟩ := hrel
            obtain ⟨m, hm, hm2⟩ : ∃ m : Nat, (a : Int) + (s : Int) = (m : Int) ∧ m = a + s := ⟨a + s, by omega, rfl⟩
            have hma : a < m := by omega
            have hms : m ≤ a + s := by omega
            have hms2 : a + s ≤ m := by omega
            by_cases hlt3 : b ≤ n
            · have HT := Blk.two HI.out.2.2.2 (by omega) (by omega)
              have HT2 : Hid (SortedIn (ltOf cfP) a m dk ∧ SortedIn (ltOf cfP) m b dk ∧ ∃ f, Blk s n dk f b) := Lib.hid (by
                obtain ⟨t1, t2, t3⟩ := HT
                rw [← hm2] at t1 t2 t3
                have e1 : m + s = b := by omega
                rw [e1] at t2 t3
                rw [Nat.min_eq_left hlt3] at t2
                exact ⟨t1, t2, t3⟩)
              have HC := Lib.hid (HMer.out a m b dk wr HI.out.1 S1.out hma (by omega) hlt3 HT2.out.1 HT2.out.2.1)
              clear S1 HT hm2
              go_wp2_with fail
              refine HC.out.mono ?_
              rintro ee w3 ⟨rfl, d2, hm3, hs3⟩
              have S3 : Aside _ := hs3
              have HI2 : Hid (d2.size = n ∧ PermIn 0 n d d2 ∧ Pre (2 * s) n b d2 ∧ ∃ f, Blk s n d2 f b) := Lib.hid ⟨hm3.1.1.trans HI.out.1, permIn_trans _ _ _ _ _ HI.out.2.1 (permIn_mono _ _ _ _ _ _ (Nat.zero_le _) hlt3 (by rw [HI.out.1]; exact Nat.le_refl _) hm3.1), HI.out.2.2.1.step (by omega) hlt3 hm3, by
                obtain ⟨f, hf⟩ := HT2.out.2.2
                exact ⟨f, hf.congr (fun t ht => hm3.1.2.1 t (.inr ht))⟩⟩
              clear hm3 hs3 HI HC HT2
              go_wp2_with fail
              go_roundg (n - b)
              case measure => omega
              case rel => exact ⟨b, b + 2 * s, d2, rfl, by go_num, by omega, by omega, hlt3, Nat.le_refl _, S3, HI2⟩
            · by_cases hlt4 : m < n
              · have HT := Blk.two HI.out.2.2.2 (by omega) (by omega)
                have HT2 : Hid (SortedIn (ltOf cfP) a m dk ∧ SortedIn (ltOf cfP) m n dk) := Lib.hid (by
                  obtain ⟨t1, t2, t3⟩ := HT
                  rw [← hm2] at t1 t2
                  rw [Nat.min_eq_right (by omega)] at t2
                  exact ⟨t1, t2⟩)
                have HC := Lib.hid (HMer.out a m n dk wr HI.out.1 S1.out hma hlt4 (Nat.le_refl _) HT2.out.1 HT2.out.2)
                clear S1 HT hm2
                go_wp2_with fail
                refine HC.out.mono ?_
                rintro ee w3 ⟨rfl, d2, hm3, hs3⟩
                have S3 : Aside _ := hs3
                have HI2 : Hid (d2.size = n ∧ PermIn 0 n d d2 ∧ ∃ f, Blk (s * 2) n d2 f 0) := Lib.hid ⟨hm3.1.1.trans HI.out.1, permIn_trans _ _ _ _ _ HI.out.2.1 (permIn_mono _ _ _ _ _ _ (Nat.zero_le _) (Nat.le_refl _) (by rw [HI.out.1]; exact Nat.le_refl _) hm3.1), by rw [Nat.mul_comm]; exact HI.out.2.2.1.last (by omega) (fun t ht => hm3.1.2.1 t (.inl ht)) hm3.2⟩
                clear hm3 hs3 HI HC HT2
                go_wp2_with fail
                go_roundg (n - s * 2)
                case measure => omega
                case rel => exact ⟨s * 2, d2, by go_num, by omega, by omega, Nat.le_refl _, S3, HI2⟩
              · have HI2 : Hid (dk.size = n ∧ PermIn 0 n d dk ∧ ∃ f, Blk (s * 2) n dk f 0) := Lib.hid ⟨HI.out.1, HI.out.2.1, by rw [Nat.mul_comm]; exact HI.out.2.2.1.last (by omega) (fun _ _ => rfl) (Blk.head HI.out.2.2.2 (by omega))⟩
                clear HI hm2
                go_wp2_with fail
                go_roundg (n - s * 2)
                case measure => omega
                case rel => exact ⟨s * 2, dk, by go_num, by omega, by omega, Nat.le_refl _, S1, HI2⟩
        · have HEnd : Hid (Merged 0 n d dk) := Lib.hid ⟨HI.out.2.1, Blk.head HI.out.2.2 (by omega)⟩
          go_wp2_with fail
          go_end0
          exact ⟨rfl, dk, HEnd.out, S1.out⟩
end Go.Proofs.Ytfeldgkjgfjeeaa
