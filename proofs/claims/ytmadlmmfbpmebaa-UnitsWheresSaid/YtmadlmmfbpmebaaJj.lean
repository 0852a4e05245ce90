/- The contracts of holds and first of the reference of chapter 1. -/
import Derived.Test.YtmadlmmfbpmebaaPw
import Derived.Test.YtmadlmmfbpmebaaJi
namespace Go.Proofs.Ytmadlmmfbpmebaa
open Go.RowKit
/-- The answer to a question about a value. -/
def hoF (v : Rng) (y qn : Int) : Bool := if qn = 1 then decide (y ≤ v.lo) else if qn = 2 then decide (y < v.hi) else if qn = 3 then decide (v.hi ≤ y) else decide (v.lo < y)
set_option maxRecDepth 100000 in
set_option maxHeartbeats 2000000 in
theorem holds_any (A : Option Addr) (c : Nat) (t : List Rng) (x y qn : Int) (w : World) (B : Nat) (ht : Tab t) (h0 : (at0 t 0).lo ≤ x) (h1 : x ≤ (at0 t (t.length - 1)).lo) (hq : qn = 1 ∨ qn = 2 ∨ qn = 3 ∨ qn = 4) (hB : B ≤ w.heap.size) (hx : Rd w B 2 A t.length (rR t)) :
    Calls Try.prog 122 #[.slice A t.length c, I x, I y, I qn] w fun e w' => e = .returned (.bool (hoF (valF t x) y qn)) ∧ Below w.heap.size w w' := by
  have ca := Lib.hid (refAt_any A c t x w B ht h0 h1 hB hx)
  clear ht h0 h1 hB hx
  generalize valF t x = v at *
  obtain ⟨v1, v2⟩ := v
  simp only at ca
  rcases hq with rfl | rfl | rfl | rfl
  · rcases hb : decide (y ≤ v1) with _ | _
    all_goals
      have hf : Hid (hoF ⟨v1, v2⟩ y 1 = decide (y ≤ v1)) := rfl
      rw [hb] at hf
      go_enter Try.func122, Try.ntmps122
      go_wp2_with fail
      refine ca.out.mono ?_
      rintro e w1 ⟨rfl, hb1⟩
      have HB := Lib.hid hb1
      clear hb1
      go_wp2_with fail
      go_ret
      exact ⟨by rw [hf.out]; rfl, HB.out⟩
  · rcases hb : decide (y < v2) with _ | _
    all_goals
      have hf : Hid (hoF ⟨v1, v2⟩ y 2 = decide (y < v2)) := rfl
      rw [hb] at hf
      go_enter Try.func122, Try.ntmps122
      go_wp2_with fail
      refine ca.out.mono ?_
      rintro e w1 ⟨rfl, hb1⟩
      have HB := Lib.hid hb1
      clear hb1
      go_wp2_with fail
      go_ret
      exact ⟨by rw [hf.out]; rfl, HB.out⟩
  · rcases hb : decide (v2 ≤ y) with _ | _
    all_goals
      have hf : Hid (hoF ⟨v1, v2⟩ y 3 = decide (v2 ≤ y)) := rfl
      rw [hb] at hf
      go_enter Try.func122, Try.ntmps122
      go_wp2_with fail
      refine ca.out.mono ?_
      rintro e w1 ⟨rfl, hb1⟩
      have HB := Lib.hid hb1
      clear hb1
      go_wp2_with fail
      go_ret
      exact ⟨by rw [hf.out]; rfl, HB.out⟩
  · rcases hb : decide (v1 < y) with _ | _
    all_goals
      have hf : Hid (hoF ⟨v1, v2⟩ y 4 = decide (v1 < y)) := rfl
      rw [hb] at hf
      go_enter Try.func122, Try.ntmps122
      go_wp2_with fail
      refine ca.out.mono ?_
      rintro e w1 ⟨rfl, hb1⟩
      have HB := Lib.hid hb1
      clear hb1
      go_wp2_with fail
      go_ret
      exact ⟨by rw [hf.out]; rfl, HB.out⟩
/-- What first finds. -/
def FiSp (P : Int → Bool) (a b h : Int) : Prop := (a ≤ h ∧ h ≤ b + 1) ∧ (h ≤ b → P h = true) ∧ (a < h → P (h - 1) = false)
theorem fi_uniq {P : Int → Bool} {a b h F : Int} (hs : FiSp P a b h) (hF : a ≤ F ∧ F ≤ b + 1) (hP : ∀ x, a ≤ x → x ≤ b → (P x = true ↔ F ≤ x)) : h = F := by
  obtain ⟨h1, h2, h3⟩ := hs
  apply Int.le_antisymm
  · by_cases h4 : a < h
    · have h5 := h3 h4
      have h6 := hP (h - 1) (by omega) (by omega)
      have : ¬ (F ≤ h - 1) := fun h7 => by rw [h6.2 h7] at h5; cases h5
      omega
    · omega
  · by_cases h4 : h ≤ b
    · exact (hP h h1.1 h4).1 (h2 h4)
    · omega
set_option maxRecDepth 100000 in
set_option maxHeartbeats 2000000 in
theorem first_any (A : Option Addr) (c : Nat) (t : List Rng) (a b y qn : Int) (w : World) (B : Nat) (ht : Tab t) (h0 : (at0 t 0).lo ≤ a) (h1 : b ≤ (at0 t (t.length - 1)).lo) (hab : a ≤ b) (hq : qn = 1 ∨ qn = 2 ∨ qn = 3 ∨ qn = 4)
    (hB : B ≤ w.heap.size) (hx : Rd w B 2 A t.length (rR t)) :
    Calls Try.prog 97 #[.slice A t.length c, I a, I b, I y, I qn] w fun e w' => ∃ h, e = .returned (I h) ∧ FiSp (fun x => hoF (valF t x) y qn) a b h ∧ Below w.heap.size w w' := by
  have t0 := ht.x 0 (by have := ht.n2; omega)
  have t1 := ht.x (t.length - 1) (by have := ht.n2; omega)
  have ch : Hid (∀ u x, a ≤ x → x ≤ b → Calls Try.prog 122 #[.slice A t.length c, I x, I y, I qn] (ovr w u) fun e w' => e = .returned (.bool (hoF (valF t x) y qn)) ∧ Below (ovr w u).heap.size (ovr w u) w') := fun u x h2 h3 =>
    holds_any A c t x y qn (ovr w u) B ht (by omega) (by omega) hq (Nat.le_trans hB (ovr_below w u).size) (hx.below ((ovr_below w u).mono hB))
  have K : Hid (-1000000000000 ≤ a ∧ b ≤ 1000000000000 ∧ a ≤ b) := by show _ ∧ _; omega
  have w1 : IntKind.i64.wrap (a - 1) = a - 1 := IntWalk.i64_in _ (by omega)
  have w2 : IntKind.i64.wrap (b + 1) = b + 1 := IntWalk.i64_in _ (by omega)
  obtain ⟨u0, hu0⟩ := ovr_self w
  have H0 := Lib.hid hu0
  clear ht h0 h1 hab hq hB hx t0 t1 hu0
  have HUw : Hid (∀ u, Below w.heap.size w (ovr w u)) := fun u => ovr_below _ _
  go_enter Try.func97, Try.ntmps97
  go_wp2_with fail
  go_loopw [11, 12] (fun l h wr => ∃ lo hi : Int, l = I lo ∧ h = I hi ∧ a - 1 ≤ lo ∧ lo < hi ∧ hi ≤ b + 1 ∧ (a ≤ lo → hoF (valF t lo) y qn = false) ∧ (hi ≤ b → hoF (valF t hi) y qn = true) ∧ ∃ u, wr = ovr w u) (fun l h _ => (intOf h - intOf l).toNat)
  case atStart => exact ⟨a - 1, b + 1, rfl, rfl, by omega, by have := K.out; omega, by omega, fun h => by omega, fun h => by omega, u0, H0.out⟩
  case round =>
    obtain ⟨lo, hi, rfl, rfl, g1, g2, g3, g4, g5, u, rfl⟩ := hrel
    have k := K.out
    clear w1 w2
    obtain ⟨d, hd⟩ : ∃ d, hi - lo = d := ⟨_, rfl⟩
    have c1 : IntKind.i64.wrap (hi - lo) = d := by rw [IntWalk.i64_in _ (by omega)]; exact hd
    have G4 := Lib.hid g4
    have G5 := Lib.hid g5
    clear g4 g5
    by_cases h1 : 1 < d
    · have h1b := decide_eq_true h1
      obtain ⟨m, hm⟩ : ∃ m, d.tdiv 2 = m := ⟨_, rfl⟩
      have hmb : 1 ≤ m ∧ m < d := by rw [← hm, Int.tdiv_eq_ediv_of_nonneg (by omega)]; omega
      have c2 : wrap64 m = m := by unfold wrap64; omega
      have c3 : IntKind.i64.wrap (lo + m) = lo + m := IntWalk.i64_in _ (by omega)
      have hh := ch.out u (lo + m) (by omega) (by omega)
      rcases hv : hoF (valF t (lo + m)) y qn with _ | _
      all_goals
        rw [hv] at hh
        have Hh := Lib.hid hh
        have HV := Lib.hid hv
        clear hv hh
      · have G : Hid (a - 1 ≤ lo + m ∧ lo + m < hi ∧ hi ≤ b + 1 ∧ m + (hi - (lo + m)) = d ∧ 1 ≤ m ∧ hi - lo = d) := by show _ ∧ _; omega
        clear k g1 g2 g3 hmb h1 hd
        go_wp2_with fail
        refine Hh.out.mono ?_
        rintro e w1 ⟨rfl, hb1⟩
        obtain ⟨u1, rfl⟩ := ovr_next hb1
        clear hb1
        go_wp2_with fail
        go_roundw
        case rel => exact ⟨lo + m, hi, rfl, rfl, G.out.1, G.out.2.1, G.out.2.2.1, fun _ => HV.out, G5.out, u1, rfl⟩
        case measure => have := G.out; simp [intOf]; omega
      · have G : Hid (a - 1 ≤ lo ∧ lo < lo + m ∧ lo + m ≤ b + 1 ∧ m < d ∧ 1 ≤ m ∧ hi - lo = d) := by show _ ∧ _; omega
        clear k g1 g2 g3 hmb h1 hd
        go_wp2_with fail
        refine Hh.out.mono ?_
        rintro e w1 ⟨rfl, hb1⟩
        obtain ⟨u1, rfl⟩ := ovr_next hb1
        clear hb1
        go_wp2_with fail
        go_roundw
        case rel => exact ⟨lo, lo + m, rfl, rfl, G.out.1, G.out.2.1, G.out.2.2.1, G4.out, fun _ => HV.out, u1, rfl⟩
        case measure => have := G.out; simp [intOf]; omega
    · have h1b := decide_eq_false h1
      have e : Hid (lo = hi - 1 ∧ a ≤ hi ∧ hi ≤ b + 1) := by show _ ∧ _; omega
      have hsp : Hid (FiSp (fun x => hoF (valF t x) y qn) a b hi) := ⟨by have := e.out; omega, G5.out, fun h => by rw [← e.out.1]; exact G4.out (by have := e.out; omega)⟩
      clear k g1 g2 g3 h1 hd
      go_wp2_with fail
      go_ret
      exact ⟨hi, rfl, hsp.out, ovr_below _ _⟩
/-- What the questions find at a piece. -/
theorem first_rise {t : List Rng} (ht : Tab t) {i : Nat} (hi : i + 1 < t.length) (hr : ¬ (at0 t (i + 1)).hi < (at0 t i).hi) {y : Rng} {h1 h2 : Int} (s1 : FiSp (fun x => hoF (valF t x) y.lo 1) (at0 t i).lo (at0 t (i + 1)).lo h1) (s2 : FiSp (fun x => hoF (valF t x) y.hi 2) (at0 t i).lo (at0 t (i + 1)).lo h2) :
    whF (at0 t i) (at0 t (i + 1)) y = ⟨h1, h2 - 1⟩ := by
  have hup := ht.asc i (i + 1) (by omega) hi
  have hg := wh_rng (p := at0 t i) (q := at0 t (i + 1)) (y := y) hup
  have e1 := fi_uniq s1 (F := (whF (at0 t i) (at0 t (i + 1)) y).lo) hg.1 (fun x hx1 hx2 => by
    have hl := (wh_law (p := at0 t i) (q := at0 t (i + 1)) (y := y) (x := x) hup ⟨hx1, hx2⟩).1
    rw [if_neg hr] at hl
    rw [hl, val_piece ht hi ⟨hx1, hx2⟩]
    show decide _ = true ↔ _
    rw [decide_eq_true_eq])
  have e2 := fi_uniq s2 (F := (whF (at0 t i) (at0 t (i + 1)) y).hi + 1) (by omega) (fun x hx1 hx2 => by
    have hl := (wh_law (p := at0 t i) (q := at0 t (i + 1)) (y := y) (x := x) hup ⟨hx1, hx2⟩).2
    rw [if_neg hr] at hl
    rw [val_piece ht hi ⟨hx1, hx2⟩]
    show decide _ = true ↔ _
    rw [decide_eq_true_eq]
    generalize (atF (at0 t i) (at0 t (i + 1)) x).hi = z at *
    constructor <;> intro h
    · have : ¬ (z ≤ y.hi) := by omega
      rw [← hl] at this; omega
    · have : ¬ (x ≤ (whF (at0 t i) (at0 t (i + 1)) y).hi) := by omega
      rw [hl] at this; omega)
  generalize whF (at0 t i) (at0 t (i + 1)) y = g at *
  obtain ⟨g1, g2⟩ := g
  simp only at e1 e2
  rw [e1, e2]; congr 1; omega
theorem first_fall {t : List Rng} (ht : Tab t) {i : Nat} (hi : i + 1 < t.length) (hr : (at0 t (i + 1)).hi < (at0 t i).hi) {y : Rng} {h1 h2 : Int} (s1 : FiSp (fun x => hoF (valF t x) y.hi 3) (at0 t i).lo (at0 t (i + 1)).lo h1) (s2 : FiSp (fun x => hoF (valF t x) y.lo 4) (at0 t i).lo (at0 t (i + 1)).lo h2) :
    whF (at0 t i) (at0 t (i + 1)) y = ⟨h1, h2 - 1⟩ := by
  have hup := ht.asc i (i + 1) (by omega) hi
  have hg := wh_rng (p := at0 t i) (q := at0 t (i + 1)) (y := y) hup
  have e1 := fi_uniq s1 (F := (whF (at0 t i) (at0 t (i + 1)) y).lo) hg.1 (fun x hx1 hx2 => by
    have hl := (wh_law (p := at0 t i) (q := at0 t (i + 1)) (y := y) (x := x) hup ⟨hx1, hx2⟩).1
    rw [if_pos hr] at hl
    rw [hl, val_piece ht hi ⟨hx1, hx2⟩]
    show decide _ = true ↔ _
    rw [decide_eq_true_eq])
  have e2 := fi_uniq s2 (F := (whF (at0 t i) (at0 t (i + 1)) y).hi + 1) (by omega) (fun x hx1 hx2 => by
    have hl := (wh_law (p := at0 t i) (q := at0 t (i + 1)) (y := y) (x := x) hup ⟨hx1, hx2⟩).2
    rw [if_pos hr] at hl
    rw [val_piece ht hi ⟨hx1, hx2⟩]
    show decide _ = true ↔ _
    rw [decide_eq_true_eq]
    generalize (atF (at0 t i) (at0 t (i + 1)) x).lo = z at *
    constructor <;> intro h
    · have : ¬ (y.lo ≤ z) := by omega
      rw [← hl] at this; omega
    · have : ¬ (x ≤ (whF (at0 t i) (at0 t (i + 1)) y).hi) := by omega
      rw [hl] at this; omega)
  generalize whF (at0 t i) (at0 t (i + 1)) y = g at *
  obtain ⟨g1, g2⟩ := g
  simp only at e1 e2
  rw [e1, e2]; congr 1; omega
end Go.Proofs.Ytmadlmmfbpmebaa
