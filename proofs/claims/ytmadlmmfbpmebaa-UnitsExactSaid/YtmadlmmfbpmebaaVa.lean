/- The contracts of cmp.Compare and of the search in a table. -/
import Derived.Test.YtmadlmmfbpmebaaUz
namespace Go.Proofs.Ytmadlmmfbpmebaa
open Go.RowKit
theorem nan_any (n : Int) (w : World) : Calls Try.prog 132 #[I n] w fun e w' => e = .returned (.bool false) ∧ w = w' := by
  have h : (n != n) = false := by simp
  go_enter Try.func132, Try.ntmps132
  go_wp2
  go_ret
  exact ⟨rfl, rfl⟩
theorem compare2_any (a b : Int) (w : World) : Calls Try.prog 128 #[I a, I b] w fun e w' => e = .returned (I (cmpI a b)) ∧ w = w' := by
  have hn := Lib.hid fun n w => nan_any n w
  by_cases h1 : a < b
  · have hf := Lib.hid (cmpI_lt h1)
    go_enter Try.func128, Try.ntmps128
    go_wp2_with ((go_at_call 132; refine (hn.out _ _).mono ?_; rintro e w' ⟨rfl, rfl⟩))
    go_ret
    exact ⟨ret_int hf.out.symm, rfl⟩
  · by_cases h2 : a = b
    · have hf := Lib.hid (cmpI_eq h2)
      have h3 : ¬ b < a := by omega
      have h2' := Lib.hid h2
      clear h2
      go_enter Try.func128, Try.ntmps128
      go_wp2_with ((go_at_call 132; refine (hn.out _ _).mono ?_; rintro e w' ⟨rfl, rfl⟩))
      go_ret
      exact ⟨ret_int hf.out.symm, rfl⟩
    · have hf := Lib.hid (cmpI_gt (x := a) (y := b) (by omega))
      have h3 : b < a := by omega
      clear h2
      go_enter Try.func128, Try.ntmps128
      go_wp2_with ((go_at_call 132; refine (hn.out _ _).mono ?_; rintro e w' ⟨rfl, rfl⟩))
      go_ret
      exact ⟨ret_int hf.out.symm, rfl⟩
set_option maxRecDepth 100000 in
theorem value1_any (k : Rng) (x : Int) (w : World) : Calls Try.prog 127 #[k.val, I x] w fun e w' => e = .returned (I (cmpI k.lo x)) ∧ Below w.heap.size w w' := by
  obtain ⟨W, hW⟩ : ∃ W, W = (w.alloc (.cells #[I k.lo, I k.hi] 50)) := ⟨_, rfl⟩
  have rowW0 : W.heap[w.heap.size]? = some (.cells #[I k.lo, I k.hi] 50 (0, 0)) := by rw [hW]; exact heap_last _ _ _ rfl
  have yW00 := ovr_cell (W := W) (b := w.heap.size) (o := 0) (v := I k.lo) (by rw [cell_of_row _ _ _ _ _ _ rowW0]; rfl)
  have yW01 := ovr_cell (W := W) (b := w.heap.size) (o := 1) (v := I k.hi) (by rw [cell_of_row _ _ _ _ _ _ rowW0]; rfl)
  have RrowW0 := Lib.hid (ovr_row rowW0)
  clear rowW0
  have HUW : Hid (∀ u, Below w.heap.size w (ovr W u)) := U1 hW
  have HW := Lib.hid hW
  clear hW
  go_enter Try.func127, Try.ntmps127
  go_upto_region 1 with (fail)
  rw [← HW.out]
  obtain ⟨u0, hu0⟩ := ovr_self W
  rw [hu0]
  clear hu0
  go_wp2_with ((go_at_call 128; refine (compare2_any _ _ _).mono ?_; rintro e w' ⟨rfl, rfl⟩))
  go_ret
  exact ⟨rfl, HUW.out _⟩
/-- Where x is found: the first place that is not below it. -/
def BsAt (t : List Rng) (x : Int) (i : Nat) : Prop := i ≤ t.length ∧ (∀ j, j < i → (at0 t j).lo < x) ∧ (∀ j, i ≤ j → j < t.length → x ≤ (at0 t j).lo)
def RetBs (t : List Rng) (x : Int) (w : World) (e : Ending) (w' : World) : Prop := ∃ (i : Nat) (b : Bool), e = .returned (.tuple #[.int .i64 (i : Int), .bool b]) ∧ BsAt t x i ∧ Below w.heap.size w w'
def Asc (t : List Rng) : Prop := ∀ i j, i < j → j < t.length → (at0 t i).lo < (at0 t j).lo
set_option maxRecDepth 100000 in
set_option maxHeartbeats 2000000 in
theorem search_any (A : Option Addr) (n c : Nat) (t : List Rng) (x : Int) (w : World) (B : Nat) (hn : n = t.length) (hm : n ≤ 1000) (ha : Asc t) (hB : B ≤ w.heap.size) (hx : Rd w B 2 A n (rR t)) :
    Calls Try.prog 126 #[.slice A n c, I x, .func (Fn.func 127) #[] #[]] w (RetBs t x w) := by
  subst hn
  have HX : Hid (∀ u, Rd (ovr w u) B 2 A t.length (rR t)) := fun u => hx.below ((ovr_below w u).mono hB)
  have Ha := Lib.hid ha
  obtain ⟨u0, hu0⟩ := ovr_self w
  have H0 := Lib.hid hu0
  clear hx hB hu0 ha
  have HUw : Hid (∀ u, Below w.heap.size w (ovr w u)) := fun u => ovr_below _ _
  go_enter Try.func126, Try.ntmps126
  go_wp2_with fail
  go_loopw [9, 10] (fun i j wr => ∃ l h : Nat, l ≤ h ∧ h ≤ t.length ∧ i = .int .i64 l ∧ j = .int .i64 h ∧ (∀ j, j < l → (at0 t j).lo < x) ∧ (∀ j, h ≤ j → j < t.length → x ≤ (at0 t j).lo) ∧ ∃ u, wr = ovr w u) (fun i j _ => (intOf j - intOf i).toNat)
  case atStart => exact ⟨0, t.length, by omega, by omega, rfl, rfl, fun j hj => absurd hj (by omega), fun j hj hj2 => absurd hj2 (by omega), u0, H0.out⟩
  case round =>
    obtain ⟨l, h, hlh, hht, rfl, rfl, hl, hh, u, rfl⟩ := hrel
    have Hl := Lib.hid hl
    have Hh := Lib.hid hh
    clear hl hh
    by_cases hlt : l < h
    · have kb : decide (l < h) = true := decide_eq_true hlt
      go_upto_region 5 with (fail)
      obtain ⟨m, hmd⟩ : ∃ m : Nat, (l + h) / 2 = m := ⟨_, rfl⟩
      have e : ((l : Int) + (h : Int)) / 2 = (m : Int) := by omega
      rw [e]
      have hm1 : l ≤ m ∧ m < h := by omega
      obtain ⟨b, o, rfl, _, e0, e1⟩ := (HX.out u).rng (show m < t.length by omega)
      have Hm := Lib.hid hm1
      have n1 : m < t.length := by omega
      have cv := Lib.hid fun w => value1_any (at0 t m) x w
      obtain ⟨y, hy⟩ : ∃ y, at0 t m = y := ⟨_, rfl⟩
      rw [hy] at e0 e1 cv
      have Hy := Lib.hid hy
      clear e hmd hm1 hy
      by_cases h1 : y.lo < x
      · have k1 : cmpI y.lo x = -1 := cmpI_lt h1
        rw [k1] at cv
        have H1 := Lib.hid h1
        clear h1 k1
        go_wp2_with fail
        refine (cv.out _).mono ?_
        rintro e w1 ⟨rfl, hb1⟩
        obtain ⟨u1, rfl⟩ := ovr_next hb1
        clear hb1
        go_wp2_with fail
        go_roundw
        case rel => exact ⟨m + 1, h, by have := Hm.out; omega, by omega, by go_num, rfl, fun j hj => by
            rcases Nat.lt_or_ge j m with hjm | hjm
            · have h2 := Ha.out j m hjm n1; rw [Hy.out] at h2; have := H1.out; omega
            · obtain rfl : j = m := by omega
              rw [Hy.out]; exact H1.out, Hh.out, u1, rfl⟩
        case measure => simp [intOf]; have := Hm.out; omega
      · have k1 : Hid (0 ≤ cmpI y.lo x) := by show 0 ≤ _; unfold cmpI; rw [if_neg h1]; split <;> omega
        have H1 := Lib.hid h1
        obtain ⟨z, hz⟩ : ∃ z, cmpI y.lo x = z := ⟨_, rfl⟩
        rw [hz] at cv k1
        have k2 := k1.out
        clear h1 hz
        go_wp2_with fail
        refine (cv.out _).mono ?_
        rintro e w1 ⟨rfl, hb1⟩
        obtain ⟨u1, rfl⟩ := ovr_next hb1
        clear hb1
        go_wp2_with fail
        go_roundw
        case rel => exact ⟨l, m, by have := Hm.out; omega, by omega, rfl, rfl, Hl.out, fun j hj hjt => by
            have h3 : ¬ y.lo < x := by have := H1.out; omega
            rcases Nat.lt_or_ge m j with hjm | hjm
            · have h2 := Ha.out m j hjm hjt; rw [Hy.out] at h2; omega
            · obtain rfl : j = m := by omega
              rw [Hy.out]; omega, u1, rfl⟩
        case measure => simp [intOf]; have := Hm.out; omega
    · obtain rfl : l = h := by omega
      have kb : decide (l < l) = false := decide_eq_false (by omega)
      by_cases hin : l < t.length
      · obtain ⟨b, o, rfl, _, e0, e1⟩ := (HX.out u).rng hin
        have hin2 : decide (l < t.length) = true := decide_eq_true hin
        have cv := Lib.hid fun w => value1_any (at0 t l) x w
        go_wp2_with fail
        refine (cv.out _).mono ?_
        rintro e w1 ⟨rfl, hb1⟩
        obtain ⟨u1, rfl⟩ := ovr_next hb1
        clear hb1
        go_wp2_with fail
        go_ret2
        exact ⟨l, _, rfl, ⟨hht, Hl.out, Hh.out⟩, ovr_below _ _⟩
      · have hin2 : decide (l < t.length) = false := decide_eq_false hin
        go_wp2_with fail
        go_ret2
        exact ⟨l, _, rfl, ⟨hht, Hl.out, Hh.out⟩, ovr_below _ _⟩
end Go.Proofs.Ytmadlmmfbpmebaa
