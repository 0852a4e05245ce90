/- The walk of the law UnitsNoSimpler. -/
import Derived.Test.YtmadlmmfbpmebaaU8
import Derived.Test.YtmadlmmfbpmebaaJq
namespace Go.Proofs.Ytmadlmmfbpmebaa
open Go.RowKit
theorem fle_self (a : Frc) : fle a a := Int.le_refl _
theorem fcm_zero {a b : Frc} (h1 : fle a b) (h2 : fle b a) : fcm a b = 0 := by
  unfold fle at *
  exact cmpI_eq (by omega)
theorem fcm_pos {a b : Frc} (h : ¬ fle a b) : fcm a b = 1 := by
  unfold fle at h
  exact cmpI_gt (by omega)
theorem fcm_val (a b : Frc) : fcm a b = -1 ∨ fcm a b = 0 ∨ fcm a b = 1 := by
  unfold fcm cmpI
  split
  · exact .inl rfl
  · split
    · exact .inr (.inl rfl)
    · exact .inr (.inr rfl)
theorem md_up {n d c : Int} (hn : numB n = true) (hc : 1 ≤ c ∧ c ≤ 1000000000000000) (hd : 0 ≤ d ∧ d ≤ c) : mdF n d c 2 = ((rnd (n * d) c 2).1, (rnd (n * d) c 2).2, 0) := by
  have hu := up_part (n := n) hc.1 hd.1 hd.2 (numB_iff.1 hn)
  have h2 : numB d = true := numB_iff.2 (by omega)
  have h3 : numB (rnd (n * d) c 2).1 = true := numB_iff.2 hu.1
  unfold mdF
  rw [if_neg (by omega), if_neg (by rw [hn, h2]; simp; omega)]
  generalize rnd (n * d) c 2 = z at *
  obtain ⟨z1, z2⟩ := z
  simp only at h3 ⊢
  rw [if_pos h3]
/-- What is so of the simplest fraction between two. -/
structure Sim (a b f : Frc) : Prop where
  ok : fok f = true
  lo : fcm a f ≤ 0
  hi : fcm f b ≤ 0
  den : 1 ≤ f.d
  gcd : Int.gcd f.n f.d = 1
  less : ∀ d : Int, 1 ≤ d → d < f.d → fok ⟨(rnd (a.n * d) a.d 2).1, d⟩ = true ∧ fcm ⟨(rnd (a.n * d) a.d 2).1, d⟩ b = 1 ∧ mdF a.n d a.d 2 = ((rnd (a.n * d) a.d 2).1, (rnd (a.n * d) a.d 2).2, 0)
  min : ∀ c : Frc, fok c = true → fcm a c ≤ 0 → fcm c b ≤ 0 → (siF c b).2 = 0 ∧ f.d ≤ (siF c b).1.d
theorem sim_of {a b : Frc} (ha : fok a = true) (hb : fok b = true) (h : fcm a b ≤ 0) : Sim a b (simF (b.d + a.d).toNat a b) := by
  have ka := fok_iff.1 ha
  have kb := fok_iff.1 hb
  have hab := fle_of h
  have hm : b.d + a.d ≤ ((b.d + a.d).toNat : Int) := by omega
  obtain ⟨d1, d2, d3⟩ := simF_den _ a b ka.2.1 kb.2.1 hab hm
  obtain ⟨f1, f2⟩ := simF_between _ a b ka.2.1 kb.2.1 hab hm
  have hn := simF_num ka.2.1 kb.2.1 hab hm (K := 1000000000000000) (by omega) ka.1.1 kb.1.2
  have hmin := simF_min (b.d + a.d).toNat a b
  refine ⟨fok_iff.2 ⟨hn, d1, by omega⟩, fcm_of f1, fcm_of f2, d1, simF_gcd _ a b ka.2.1 kb.2.1 hab hm, fun d hd1 hd2 => ?_, fun c hc h1 h2 => ?_⟩
  · have hu := up_part (n := a.n) (d := d) (c := a.d) ka.2.1 (by omega) (by omega) ka.1
    have hmd := md_up (n := a.n) (d := d) (c := a.d) (numB_iff.2 ka.1) ka.2 ⟨by omega, by omega⟩
    refine ⟨fok_iff.2 ⟨hu.1, hd1, by simp only; omega⟩, fcm_pos fun hc => ?_, hmd⟩
    have := (hmin ⟨(rnd (a.n * d) a.d 2).1, d⟩ ka.2.1 kb.2.1 hab hm hd1 hu.2 hc).1
    simp only at this
    omega
  · have kc := fok_iff.1 hc
    have hcb := fle_of h2
    have hac := fle_of h1
    have hm2 : b.d + c.d ≤ ((b.d + c.d).toNat : Int) := by omega
    have he : siF c b = (simF (b.d + c.d).toNat c b, 0) := by unfold siF; rw [hc, hb, decide_eq_true h2]; rfl
    obtain ⟨g1, g2, g3⟩ := simF_den _ c b kc.2.1 kb.2.1 hcb hm2
    obtain ⟨g4, g5⟩ := simF_between _ c b kc.2.1 kb.2.1 hcb hm2
    rw [he]
    exact ⟨rfl, (hmin _ ka.2.1 kb.2.1 hab hm g1 (fle_tr ka.2.1 kc.2.1 g1 hac g4) g5).1⟩
theorem sim_self {a : Frc} (ha : fok a = true) : (siF a a).2 = 0 ∧ fok (siF a a).1 = true ∧ fcm (siF a a).1 a = 0 := by
  have h0 : fcm a a ≤ 0 := by rw [fcm_zero (fle_self a) (fle_self a)]; omega
  have he : siF a a = (simF (a.d + a.d).toNat a a, 0) := by unfold siF; rw [ha, decide_eq_true h0]; rfl
  have s := sim_of ha ha h0
  rw [he]
  exact ⟨rfl, s.ok, fcm_zero (fle_of s.hi) (fle_of s.lo)⟩
theorem sim_no {a b : Frc} (h : ¬ (fok a = true ∧ fok b = true ∧ fcm a b ≤ 0)) : siF a b = (⟨0, 0⟩, 2) := by
  unfold siF
  rw [if_neg]
  simp only [Bool.and_eq_true, decide_eq_true_eq]
  exact h
theorem co_ok {a b : Frc} (ha : fok a = true) (hb : fok b = true) : coF a b = (fcm a b, 0) := by rw [coF, ha, hb]; rfl
theorem co_no1 {a b : Frc} (ha : fok a = false) : coF a b = (0, 2) := by rw [coF, ha]; rfl
theorem co_no2 {a b : Frc} (hb : fok b = false) : coF a b = (0, 2) := by rw [coF, hb]; simp
theorem keep3 {W : World} {b o : Nat} {v : Value} {x y z : Obj} (h : W.cell? ⟨b, o, none⟩ = some v) : (((W.alloc x).alloc y).alloc z).drew.cell? ⟨b, o, none⟩ = some v :=
  (((((Below.refl _ _).alloc (Nat.le_refl _) x).alloc (by simp) y).alloc (by simp; omega) z).drew.cell (p := ⟨b, o, none⟩) (block_lt_of_cell h)).trans h
set_option maxRecDepth 100000 in
set_option maxHeartbeats 8000000 in
theorem unitsNoSimpler_any (a b c : Frc) (t : Int) (w : World) (ht : 0 ≤ t ∧ t ≤ 65535) : Calls Try.prog 13 #[.agg #[I a.n, I a.d, I b.n, I b.d, I c.n, I c.d, .int .u16 t]] w fun e w' => e = .returned (.bool true) ∧ Below w.heap.size w w' := by
  have ck := Lib.hid fun W => known_any W
  have cS := Lib.hid fun W => simplest2_any a b W
  have cA := Lib.hid fun W => simplest2_any a a W
  have cC := Lib.hid fun W => simplest2_any c b W
  have cc1 := Lib.hid fun W => compare_any a c W
  have cc2 := Lib.hid fun W => compare_any c b W
  have HT := Lib.hid ht
  clear ht
  obtain ⟨W, hW⟩ : ∃ W, W = (w.alloc (.cells #[I a.n, I a.d, I b.n, I b.d, I c.n, I c.d, .int .u16 t] 79)) := ⟨_, rfl⟩
  have rowW0 : W.heap[w.heap.size]? = some (.cells #[I a.n, I a.d, I b.n, I b.d, I c.n, I c.d, .int .u16 t] 79 (0, 0)) := by rw [hW]; exact heap_last _ _ _ rfl
  have yW00 := ovr_cell (W := W) (b := w.heap.size) (o := 0) (v := I a.n) (by rw [cell_of_row _ _ _ _ _ _ rowW0]; rfl)
  have yW01 := ovr_cell (W := W) (b := w.heap.size) (o := 1) (v := I a.d) (by rw [cell_of_row _ _ _ _ _ _ rowW0]; rfl)
  have yW02 := ovr_cell (W := W) (b := w.heap.size) (o := 2) (v := I b.n) (by rw [cell_of_row _ _ _ _ _ _ rowW0]; rfl)
  have yW03 := ovr_cell (W := W) (b := w.heap.size) (o := 3) (v := I b.d) (by rw [cell_of_row _ _ _ _ _ _ rowW0]; rfl)
  have yW04 := ovr_cell (W := W) (b := w.heap.size) (o := 4) (v := I c.n) (by rw [cell_of_row _ _ _ _ _ _ rowW0]; rfl)
  have yW05 := ovr_cell (W := W) (b := w.heap.size) (o := 5) (v := I c.d) (by rw [cell_of_row _ _ _ _ _ _ rowW0]; rfl)
  have yW06 := ovr_cell (W := W) (b := w.heap.size) (o := 6) (v := .int .u16 t) (by rw [cell_of_row _ _ _ _ _ _ rowW0]; rfl)
  have RrowW0 := Lib.hid (ovr_row rowW0)
  clear rowW0
  have HUW : Hid (∀ u, Below w.heap.size w (ovr W u)) := U1 hW
  have HW := Lib.hid hW
  clear hW
  go_enter Try.func13, Try.ntmps13
  go_upto_region 1 with (fail)
  rw [← HW.out]
  go_cut [3, 4, 5] (fun s3 s4 s5 wx => ∃ p q r : Nat, s3 = .pointer (some ⟨p, 0, none⟩) ∧ s4 = .pointer (some ⟨q, 0, none⟩) ∧ s5 = .pointer (some ⟨r, 0, none⟩) ∧ wx.heap[p]? = some (.cells #[I a.n, I a.d] 71 (0, 0)) ∧ wx.heap[q]? = some (.cells #[I b.n, I b.d] 71 (0, 0)) ∧ wx.heap[r]? = some (.cells #[I c.n, I c.d] 71 (0, 0)) ∧ Below W.heap.size W wx)
  case first =>
    obtain ⟨u0, h0⟩ := ovr_self W
    have xyW00 := yW00 u0
    rw [← h0] at xyW00
    have xyW01 := yW01 u0
    rw [← h0] at xyW01
    have xyW02 := yW02 u0
    rw [← h0] at xyW02
    have xyW03 := yW03 u0
    rw [← h0] at xyW03
    have xyW04 := yW04 u0
    rw [← h0] at xyW04
    have xyW05 := yW05 u0
    rw [← h0] at xyW05
    have xyW06 := yW06 u0
    rw [← h0] at xyW06
    clear h0 yW00 yW01 yW02 yW03 yW04 yW05 yW06
    go_region_held3 (fun w' => w'.cell? ⟨w.heap.size, 0, none⟩ = some (I a.n) ∧ w'.cell? ⟨w.heap.size, 1, none⟩ = some (I a.d) ∧ w'.cell? ⟨w.heap.size, 2, none⟩ = some (I b.n) ∧ w'.cell? ⟨w.heap.size, 3, none⟩ = some (I b.d) ∧ w'.cell? ⟨w.heap.size, 4, none⟩ = some (I c.n) ∧ w'.cell? ⟨w.heap.size, 5, none⟩ = some (I c.d)) (first | (go_keep; done) | exact ⟨keep3 xyW00, keep3 xyW01, keep3 xyW02, keep3 xyW03, keep3 xyW04, keep3 xyW05⟩) (fail)
    all_goals
      go_wp2_with fail
      go_meet
      case rel =>
        refine ⟨_, _, _, rfl, rfl, rfl, ?_, ?_, ?_, ((((Below.refl _ _).alloc (Nat.le_refl _) _).alloc (by simp) _).alloc (by simp; omega) _).drew⟩
        all_goals
          rw [heap_drew]
          first
          | exact heap_last _ _ _ (by simp)
          | exact heap_before (heap_last _ _ _ (by simp))
          | exact heap_before (heap_before (heap_last _ _ _ (by simp)))
  case rest =>
    obtain ⟨p, q, r, rfl, rfl, rfl, rp, rq, rr, hb⟩ := hcut
    rename World => V
    have reV : ∀ v, ∃ x, ovr V v = ovr W x := fun v => ovr_reB hb v
    replace yW00 := tr_cell reV yW00
    replace yW01 := tr_cell reV yW01
    replace yW02 := tr_cell reV yW02
    replace yW03 := tr_cell reV yW03
    replace yW04 := tr_cell reV yW04
    replace yW05 := tr_cell reV yW05
    replace yW06 := tr_cell reV yW06
    replace RrowW0 := Lib.hid (tr_row reV RrowW0.out)
    have yV00 := ovr_cell (W := V) (b := p) (o := 0) (v := I a.n) (by rw [cell_of_row _ _ _ _ _ _ rp]; rfl)
    have yV01 := ovr_cell (W := V) (b := p) (o := 1) (v := I a.d) (by rw [cell_of_row _ _ _ _ _ _ rp]; rfl)
    have RrowV0 := Lib.hid (ovr_row rp)
    clear rp
    have yV10 := ovr_cell (W := V) (b := q) (o := 0) (v := I b.n) (by rw [cell_of_row _ _ _ _ _ _ rq]; rfl)
    have yV11 := ovr_cell (W := V) (b := q) (o := 1) (v := I b.d) (by rw [cell_of_row _ _ _ _ _ _ rq]; rfl)
    have RrowV1 := Lib.hid (ovr_row rq)
    clear rq
    have yV20 := ovr_cell (W := V) (b := r) (o := 0) (v := I c.n) (by rw [cell_of_row _ _ _ _ _ _ rr]; rfl)
    have yV21 := ovr_cell (W := V) (b := r) (o := 1) (v := I c.d) (by rw [cell_of_row _ _ _ _ _ _ rr]; rfl)
    have RrowV2 := Lib.hid (ovr_row rr)
    clear rr
    have HUV : Hid (∀ u, Below w.heap.size w (ovr V u)) := fun u => by obtain ⟨x, hx⟩ := reV u; rw [hx]; exact HUW.out x
    clear reV hb
    obtain ⟨u0, hu0⟩ := ovr_self V
    rw [hu0]
    clear hu0
    by_cases hs : fok a = true ∧ fok b = true ∧ fcm a b ≤ 0
    case neg =>
      rw [sim_no hs] at cS
      clear hs
      go_wp2_with fail
      refine (cS.out _).mono ?_
      rintro e w1 ⟨rfl, hb1⟩
      obtain ⟨u1, rfl⟩ := ovr_next hb1
      clear hb1
      go_upto_region 3 with (fail)
      obtain ⟨X, hX⟩ : ∃ X, X = ((ovr V u1).alloc (.cells #[I 0, I 0] 71)) := ⟨_, rfl⟩
      have reX : ∀ v, ∃ x, ovr X v = ovr V x := fun v => ovr_re1 hX
      replace yW00 := tr_cell reX yW00
      replace yW01 := tr_cell reX yW01
      replace yW02 := tr_cell reX yW02
      replace yW03 := tr_cell reX yW03
      replace yW04 := tr_cell reX yW04
      replace yW05 := tr_cell reX yW05
      replace yW06 := tr_cell reX yW06
      replace RrowW0 := Lib.hid (tr_row reX RrowW0.out)
      replace yV00 := tr_cell reX yV00
      replace yV01 := tr_cell reX yV01
      replace RrowV0 := Lib.hid (tr_row reX RrowV0.out)
      replace yV10 := tr_cell reX yV10
      replace yV11 := tr_cell reX yV11
      replace RrowV1 := Lib.hid (tr_row reX RrowV1.out)
      replace yV20 := tr_cell reX yV20
      replace yV21 := tr_cell reX yV21
      replace RrowV2 := Lib.hid (tr_row reX RrowV2.out)
      have rowX0 : X.heap[(ovr V u1).heap.size]? = some (.cells #[I 0, I 0] 71 (0, 0)) := by rw [hX]; exact heap_last _ _ _ rfl
      have yX00 := ovr_cell (W := X) (b := (ovr V u1).heap.size) (o := 0) (v := I 0) (by rw [cell_of_row _ _ _ _ _ _ rowX0]; rfl)
      have yX01 := ovr_cell (W := X) (b := (ovr V u1).heap.size) (o := 1) (v := I 0) (by rw [cell_of_row _ _ _ _ _ _ rowX0]; rfl)
      have RrowX0 := Lib.hid (ovr_row rowX0)
      clear rowX0
      have HBX : Hid (∀ u, Below V.heap.size V (ovr X u)) := fun u => by obtain ⟨x, hx⟩ := reX u; rw [hx]; exact ovr_below _ _
      have HUX : Hid (∀ u, Below w.heap.size w (ovr X u)) := fun u => by obtain ⟨x, hx⟩ := reX u; rw [hx]; exact HUV.out x
      clear reX
      have HX := Lib.hid hX
      clear hX
      rw [← HX.out]
      obtain ⟨u2, hu2⟩ := ovr_self X
      rw [hu2]
      clear hu2
      go_wp2_with fail
      refine (ck.out _).mono ?_
      rintro e w1 ⟨rfl, hb1⟩
      obtain ⟨u3, rfl⟩ := ovr_next hb1
      clear hb1
      go_wp2_with fail
      go_ret
      exact ⟨rfl, HUX.out _⟩
    obtain ⟨ha, hb, hab⟩ := hs
    have S := sim_of ha hb hab
    have he : siF a b = (simF (b.d + a.d).toNat a b, 0) := by unfold siF; rw [ha, hb, decide_eq_true hab]; rfl
    have ss := sim_self ha
    rw [he] at cS
    generalize simF (b.d + a.d).toNat a b = f at *
    obtain ⟨⟨fn, fd⟩, ff⟩ : ∃ g : Frc, f = g := ⟨f, rfl⟩
    subst ff
    generalize siF a a = gg at *
    obtain ⟨⟨hn, hd⟩, hz⟩ := gg
    simp only at ss cA S
    obtain ⟨rfl, hh, hh2⟩ := ss
    have kf := fok_iff.1 S.ok
    simp only at kf
    have HK := Lib.hid kf
    have c1 := Lib.hid fun W => compare_any a ⟨fn, fd⟩ W
    have c2 := Lib.hid fun W => compare_any ⟨fn, fd⟩ b W
    have c3 := Lib.hid fun W => compare_any ⟨hn, hd⟩ a W
    rw [co_ok ha S.ok] at c1
    rw [co_ok S.ok hb] at c2
    rw [co_ok hh ha, hh2] at c3
    have x1 : decide (0 < fcm a ⟨fn, fd⟩) = false := decide_eq_false (by have := S.lo; omega)
    have x2 : decide (0 < fcm ⟨fn, fd⟩ b) = false := decide_eq_false (by have := S.hi; omega)
    have x3 : decide (fd < 1) = false := decide_eq_false (by have := S.den; simp only at this; omega)
    have cd := Lib.hid fun W => divisor_any fn fd W (by omega) (by omega)
    have hgc := S.gcd
    simp only at hgc
    rw [hgc] at cd
    have HS := Lib.hid S
    have Ha := Lib.hid ha
    have Hb := Lib.hid hb
    generalize fcm a ⟨fn, fd⟩ = z1 at *
    generalize fcm ⟨fn, fd⟩ b = z2 at *
    clear S hab he hh hh2 kf hgc ha hb
    go_wp2_with fail
    refine (cS.out _).mono ?_
    rintro e w1 ⟨rfl, hb1⟩
    obtain ⟨u1, rfl⟩ := ovr_next hb1
    clear hb1
    go_upto_region 3 with (fail)
    obtain ⟨X, hX⟩ : ∃ X, X = ((ovr V u1).alloc (.cells #[I fn, I fd] 71)) := ⟨_, rfl⟩
    have reX : ∀ v, ∃ x, ovr X v = ovr V x := fun v => ovr_re1 hX
    replace yW00 := tr_cell reX yW00
    replace yW01 := tr_cell reX yW01
    replace yW02 := tr_cell reX yW02
    replace yW03 := tr_cell reX yW03
    replace yW04 := tr_cell reX yW04
    replace yW05 := tr_cell reX yW05
    replace yW06 := tr_cell reX yW06
    replace RrowW0 := Lib.hid (tr_row reX RrowW0.out)
    replace yV00 := tr_cell reX yV00
    replace yV01 := tr_cell reX yV01
    replace RrowV0 := Lib.hid (tr_row reX RrowV0.out)
    replace yV10 := tr_cell reX yV10
    replace yV11 := tr_cell reX yV11
    replace RrowV1 := Lib.hid (tr_row reX RrowV1.out)
    replace yV20 := tr_cell reX yV20
    replace yV21 := tr_cell reX yV21
    replace RrowV2 := Lib.hid (tr_row reX RrowV2.out)
    have rowX0 : X.heap[(ovr V u1).heap.size]? = some (.cells #[I fn, I fd] 71 (0, 0)) := by rw [hX]; exact heap_last _ _ _ rfl
    have yX00 := ovr_cell (W := X) (b := (ovr V u1).heap.size) (o := 0) (v := I fn) (by rw [cell_of_row _ _ _ _ _ _ rowX0]; rfl)
    have yX01 := ovr_cell (W := X) (b := (ovr V u1).heap.size) (o := 1) (v := I fd) (by rw [cell_of_row _ _ _ _ _ _ rowX0]; rfl)
    have RrowX0 := Lib.hid (ovr_row rowX0)
    clear rowX0
    have HBX : Hid (∀ u, Below V.heap.size V (ovr X u)) := fun u => by obtain ⟨x, hx⟩ := reX u; rw [hx]; exact ovr_below _ _
    have HUX : Hid (∀ u, Below w.heap.size w (ovr X u)) := fun u => by obtain ⟨x, hx⟩ := reX u; rw [hx]; exact HUV.out x
    clear reX
    have HX := Lib.hid hX
    clear hX
    rw [← HX.out]
    obtain ⟨u2, hu2⟩ := ovr_self X
    rw [hu2]
    clear hu2
    go_wp2_with fail
    refine (c1.out _).mono ?_
    rintro e w1 ⟨rfl, hb1⟩
    obtain ⟨u3, rfl⟩ := ovr_next hb1
    clear hb1
    go_wp2_with fail
    refine (c2.out _).mono ?_
    rintro e w1 ⟨rfl, hb1⟩
    obtain ⟨u4, rfl⟩ := ovr_next hb1
    clear hb1
    go_wp2_with fail
    refine (cd.out _).mono ?_
    rintro e w1 ⟨rfl, hb1⟩
    obtain ⟨u5, rfl⟩ := ovr_next hb1
    clear hb1
    by_cases hf1 : 1 < fd
    · have hf1b := decide_eq_true hf1
      obtain ⟨g, hg⟩ : ∃ g, t.tmod (fd - 1) = g := ⟨_, rfl⟩
      have hgb : 0 ≤ g ∧ g < fd - 1 := by rw [← hg]; exact ⟨Int.tmod_nonneg _ HT.out.1, Int.tmod_lt_of_pos _ (by omega)⟩
      have hl := HS.out.less (1 + g) (by omega) (by simp only; omega)
      have cm := Lib.hid fun W => muldiv_any a.n (1 + g) a.d 2 W (by have := fok_iff.1 Ha.out; omega) (by have := HK.out; omega) (by omega)
      rw [hl.2.2] at cm
      obtain ⟨nn, hnn⟩ : ∃ nn, (rnd (a.n * (1 + g)) a.d 2).1 = nn := ⟨_, rfl⟩
      obtain ⟨nr, hnr⟩ : ∃ nr, (rnd (a.n * (1 + g)) a.d 2).2 = nr := ⟨_, rfl⟩
      rw [hnn] at hl cm
      rw [hnr] at cm
      have c4 := Lib.hid fun W => compare_any ⟨nn, 1 + g⟩ b W
      rw [co_ok hl.1 Hb.out, hl.2.1] at c4
      have w1 : IntKind.i64.wrap (fd - 1) = fd - 1 := IntWalk.i64_in _ (by have := HK.out; omega)
      have w2 : IntKind.i64.wrap (1 + g) = 1 + g := IntWalk.i64_in _ (by have := HK.out; omega)
      have w3 : IntKind.i64.wrap t = t := IntWalk.i64_in _ (by have := HT.out; omega)
      have d0 : decide (fd - 1 = 0) = false := decide_eq_false (by omega)
      have d1 : ¬ (fd - 1 = 0) := by omega
      clear hl hnn hnr hgb hf1
      go_wp2_with fail
      refine (cm.out _).mono ?_
      rintro e w1 ⟨rfl, hb1⟩
      obtain ⟨u6, rfl⟩ := ovr_next hb1
      clear hb1
      go_wp2_with fail
      refine (c4.out _).mono ?_
      rintro e w1 ⟨rfl, hb1⟩
      obtain ⟨u7, rfl⟩ := ovr_next hb1
      clear hb1
      go_wp2_with fail
      refine (cA.out _).mono ?_
      rintro e w1 ⟨rfl, hb1⟩
      obtain ⟨u8, rfl⟩ := ovr_next hb1
      clear hb1
      go_upto_region 16 with (fail)
      obtain ⟨Y, hY⟩ : ∃ Y, Y = ((ovr X u8).alloc (.cells #[I hn, I hd] 71)) := ⟨_, rfl⟩
      have reY : ∀ v, ∃ x, ovr Y v = ovr X x := fun v => ovr_re1 hY
      replace yW00 := tr_cell reY yW00
      replace yW01 := tr_cell reY yW01
      replace yW02 := tr_cell reY yW02
      replace yW03 := tr_cell reY yW03
      replace yW04 := tr_cell reY yW04
      replace yW05 := tr_cell reY yW05
      replace yW06 := tr_cell reY yW06
      replace RrowW0 := Lib.hid (tr_row reY RrowW0.out)
      replace yV00 := tr_cell reY yV00
      replace yV01 := tr_cell reY yV01
      replace RrowV0 := Lib.hid (tr_row reY RrowV0.out)
      replace yV10 := tr_cell reY yV10
      replace yV11 := tr_cell reY yV11
      replace RrowV1 := Lib.hid (tr_row reY RrowV1.out)
      replace yV20 := tr_cell reY yV20
      replace yV21 := tr_cell reY yV21
      replace RrowV2 := Lib.hid (tr_row reY RrowV2.out)
      replace yX00 := tr_cell reY yX00
      replace yX01 := tr_cell reY yX01
      replace RrowX0 := Lib.hid (tr_row reY RrowX0.out)
      have rowY0 : Y.heap[(ovr X u8).heap.size]? = some (.cells #[I hn, I hd] 71 (0, 0)) := by rw [hY]; exact heap_last _ _ _ rfl
      have yY00 := ovr_cell (W := Y) (b := (ovr X u8).heap.size) (o := 0) (v := I hn) (by rw [cell_of_row _ _ _ _ _ _ rowY0]; rfl)
      have yY01 := ovr_cell (W := Y) (b := (ovr X u8).heap.size) (o := 1) (v := I hd) (by rw [cell_of_row _ _ _ _ _ _ rowY0]; rfl)
      have RrowY0 := Lib.hid (ovr_row rowY0)
      clear rowY0
      have HBY : Hid (∀ u, Below X.heap.size X (ovr Y u)) := fun u => by obtain ⟨x, hx⟩ := reY u; rw [hx]; exact ovr_below _ _
      have HUY : Hid (∀ u, Below w.heap.size w (ovr Y u)) := fun u => by obtain ⟨x, hx⟩ := reY u; rw [hx]; exact HUX.out x
      clear reY
      have HY := Lib.hid hY
      clear hY
      rw [← HY.out]
      obtain ⟨u9, hu9⟩ := ovr_self Y
      rw [hu9]
      clear hu9
      go_wp2_with fail
      refine (c3.out _).mono ?_
      rintro e w1 ⟨rfl, hb1⟩
      obtain ⟨u10, rfl⟩ := ovr_next hb1
      clear hb1
      rcases hc : fok c with _ | _
      · rw [co_no2 hc] at cc1
        rw [co_no1 hc] at cc2
        clear hc
        go_wp2_with fail
        refine (cc1.out _).mono ?_
        rintro e w1 ⟨rfl, hb1⟩
        obtain ⟨u11, rfl⟩ := ovr_next hb1
        clear hb1
        go_wp2_with fail
        refine (cc2.out _).mono ?_
        rintro e w1 ⟨rfl, hb1⟩
        obtain ⟨u12, rfl⟩ := ovr_next hb1
        clear hb1
        go_wp2_with fail
        refine (ck.out _).mono ?_
        rintro e w1 ⟨rfl, hb1⟩
        obtain ⟨u13, rfl⟩ := ovr_next hb1
        clear hb1
        go_wp2_with fail
        go_ret
        exact ⟨rfl, HUY.out _⟩
      rw [co_ok Ha.out hc] at cc1
      rw [co_ok hc Hb.out] at cc2
      have hmin := Lib.hid (HS.out.min c hc)
      clear hc
      generalize fcm a c = y1 at *
      generalize fcm c b = y2 at *
      by_cases h1 : 0 < y1
      · have h1b := decide_eq_true h1
        clear h1
        go_wp2_with fail
        refine (cc1.out _).mono ?_
        rintro e w1 ⟨rfl, hb1⟩
        obtain ⟨u11, rfl⟩ := ovr_next hb1
        clear hb1
        go_wp2_with fail
        refine (cc2.out _).mono ?_
        rintro e w1 ⟨rfl, hb1⟩
        obtain ⟨u12, rfl⟩ := ovr_next hb1
        clear hb1
        go_wp2_with fail
        refine (ck.out _).mono ?_
        rintro e w1 ⟨rfl, hb1⟩
        obtain ⟨u13, rfl⟩ := ovr_next hb1
        clear hb1
        go_wp2_with fail
        go_ret
        exact ⟨rfl, HUY.out _⟩
      have h1b := decide_eq_false h1
      by_cases h2 : 0 < y2
      · have h2b := decide_eq_true h2
        clear h1 h2
        go_wp2_with fail
        refine (cc1.out _).mono ?_
        rintro e w1 ⟨rfl, hb1⟩
        obtain ⟨u11, rfl⟩ := ovr_next hb1
        clear hb1
        go_wp2_with fail
        refine (cc2.out _).mono ?_
        rintro e w1 ⟨rfl, hb1⟩
        obtain ⟨u12, rfl⟩ := ovr_next hb1
        clear hb1
        go_wp2_with fail
        refine (ck.out _).mono ?_
        rintro e w1 ⟨rfl, hb1⟩
        obtain ⟨u13, rfl⟩ := ovr_next hb1
        clear hb1
        go_wp2_with fail
        go_ret
        exact ⟨rfl, HUY.out _⟩
      have h2b := decide_eq_false h2
      have hm := hmin.out (by omega) (by omega)
      generalize siF c b = gg at *
      obtain ⟨⟨en, ed⟩, ez⟩ := gg
      simp only at hm cC
      obtain ⟨rfl, hm⟩ := hm
      have hmb := decide_eq_true hm
      clear h1 h2 hm
      go_wp2_with fail
      refine (cc1.out _).mono ?_
      rintro e w1 ⟨rfl, hb1⟩
      obtain ⟨u11, rfl⟩ := ovr_next hb1
      clear hb1
      go_wp2_with fail
      refine (cc2.out _).mono ?_
      rintro e w1 ⟨rfl, hb1⟩
      obtain ⟨u12, rfl⟩ := ovr_next hb1
      clear hb1
      go_wp2_with fail
      refine (cC.out _).mono ?_
      rintro e w1 ⟨rfl, hb1⟩
      obtain ⟨u13, rfl⟩ := ovr_next hb1
      clear hb1
      go_upto_region 24 with (refine wpList_store_row rfl 71 _ _ rfl ((ovr X u8).heap.size) rfl _ _ (RrowY0.out _) _ rfl (one2 rfl rfl) rfl (by kernel_rfl) ?_)
      have hXs : (ovr V u1).heap.size < (ovr X u8).heap.size := by
        have h1 := (ovr_below X u8).size
        have h2 := congrArg (fun w : World => w.heap.size) HX.out
        simp at h2
        omega
      have hws : w.heap.size ≤ (ovr X u8).heap.size := (HUX.out u8).size
      obtain ⟨Z, hZ⟩ : ∃ Z, Z = (ovr Y u13).setRow (ovr X u8).heap.size #[I en, I ed] := ⟨_, rfl⟩
      have r17 : Z.heap[(ovr X u8).heap.size]? = some (.cells #[I en, I ed] 71 (0, 0)) := by rw [hZ]; exact setRow_same (RrowY0.out _)
      have r6 : Z.heap[(ovr V u1).heap.size]? = some (.cells #[I fn, I fd] 71 (0, 0)) := by rw [hZ, setRow_other (by omega)]; exact RrowX0.out _
      have e17 : Z.cell? ⟨(ovr X u8).heap.size, 1, none⟩ = some (I ed) := by rw [cell_of_row _ _ _ _ _ _ r17]; rfl
      have e6 : Z.cell? ⟨(ovr V u1).heap.size, 1, none⟩ = some (I fd) := by rw [cell_of_row _ _ _ _ _ _ r6]; rfl
      have hbZ : Hid (Below w.heap.size w Z) := by show Below _ _ _; rw [hZ]; exact below_setRow (HUY.out _) hws _
      rw [← hZ]
      clear hZ r17 r6 hXs hws
      go_wp2_with fail
      refine (ck.out _).mono ?_
      rintro e w9 ⟨rfl, hb9⟩
      have HB9 := Lib.hid (hbZ.out.trans (hb9.mono hbZ.out.size))
      clear hb9
      go_wp2_with fail
      go_ret
      exact ⟨rfl, HB9.out⟩
    · have hf1b := decide_eq_false hf1
      clear hf1
      go_wp2_with fail
      refine (cA.out _).mono ?_
      rintro e w1 ⟨rfl, hb1⟩
      obtain ⟨u8, rfl⟩ := ovr_next hb1
      clear hb1
      go_upto_region 16 with (fail)
      obtain ⟨Y, hY⟩ : ∃ Y, Y = ((ovr X u8).alloc (.cells #[I hn, I hd] 71)) := ⟨_, rfl⟩
      have reY : ∀ v, ∃ x, ovr Y v = ovr X x := fun v => ovr_re1 hY
      replace yW00 := tr_cell reY yW00
      replace yW01 := tr_cell reY yW01
      replace yW02 := tr_cell reY yW02
      replace yW03 := tr_cell reY yW03
      replace yW04 := tr_cell reY yW04
      replace yW05 := tr_cell reY yW05
      replace yW06 := tr_cell reY yW06
      replace RrowW0 := Lib.hid (tr_row reY RrowW0.out)
      replace yV00 := tr_cell reY yV00
      replace yV01 := tr_cell reY yV01
      replace RrowV0 := Lib.hid (tr_row reY RrowV0.out)
      replace yV10 := tr_cell reY yV10
      replace yV11 := tr_cell reY yV11
      replace RrowV1 := Lib.hid (tr_row reY RrowV1.out)
      replace yV20 := tr_cell reY yV20
      replace yV21 := tr_cell reY yV21
      replace RrowV2 := Lib.hid (tr_row reY RrowV2.out)
      replace yX00 := tr_cell reY yX00
      replace yX01 := tr_cell reY yX01
      replace RrowX0 := Lib.hid (tr_row reY RrowX0.out)
      have rowY0 : Y.heap[(ovr X u8).heap.size]? = some (.cells #[I hn, I hd] 71 (0, 0)) := by rw [hY]; exact heap_last _ _ _ rfl
      have yY00 := ovr_cell (W := Y) (b := (ovr X u8).heap.size) (o := 0) (v := I hn) (by rw [cell_of_row _ _ _ _ _ _ rowY0]; rfl)
      have yY01 := ovr_cell (W := Y) (b := (ovr X u8).heap.size) (o := 1) (v := I hd) (by rw [cell_of_row _ _ _ _ _ _ rowY0]; rfl)
      have RrowY0 := Lib.hid (ovr_row rowY0)
      clear rowY0
      have HBY : Hid (∀ u, Below X.heap.size X (ovr Y u)) := fun u => by obtain ⟨x, hx⟩ := reY u; rw [hx]; exact ovr_below _ _
      have HUY : Hid (∀ u, Below w.heap.size w (ovr Y u)) := fun u => by obtain ⟨x, hx⟩ := reY u; rw [hx]; exact HUX.out x
      clear reY
      have HY := Lib.hid hY
      clear hY
      rw [← HY.out]
      obtain ⟨u9, hu9⟩ := ovr_self Y
      rw [hu9]
      clear hu9
      go_wp2_with fail
      refine (c3.out _).mono ?_
      rintro e w1 ⟨rfl, hb1⟩
      obtain ⟨u10, rfl⟩ := ovr_next hb1
      clear hb1
      rcases hc : fok c with _ | _
      · rw [co_no2 hc] at cc1
        rw [co_no1 hc] at cc2
        clear hc
        go_wp2_with fail
        refine (cc1.out _).mono ?_
        rintro e w1 ⟨rfl, hb1⟩
        obtain ⟨u11, rfl⟩ := ovr_next hb1
        clear hb1
        go_wp2_with fail
        refine (cc2.out _).mono ?_
        rintro e w1 ⟨rfl, hb1⟩
        obtain ⟨u12, rfl⟩ := ovr_next hb1
        clear hb1
        go_wp2_with fail
        refine (ck.out _).mono ?_
        rintro e w1 ⟨rfl, hb1⟩
        obtain ⟨u13, rfl⟩ := ovr_next hb1
        clear hb1
        go_wp2_with fail
        go_ret
        exact ⟨rfl, HUY.out _⟩
      rw [co_ok Ha.out hc] at cc1
      rw [co_ok hc Hb.out] at cc2
      have hmin := Lib.hid (HS.out.min c hc)
      clear hc
      generalize fcm a c = y1 at *
      generalize fcm c b = y2 at *
      by_cases h1 : 0 < y1
      · have h1b := decide_eq_true h1
        clear h1
        go_wp2_with fail
        refine (cc1.out _).mono ?_
        rintro e w1 ⟨rfl, hb1⟩
        obtain ⟨u11, rfl⟩ := ovr_next hb1
        clear hb1
        go_wp2_with fail
        refine (cc2.out _).mono ?_
        rintro e w1 ⟨rfl, hb1⟩
        obtain ⟨u12, rfl⟩ := ovr_next hb1
        clear hb1
        go_wp2_with fail
        refine (ck.out _).mono ?_
        rintro e w1 ⟨rfl, hb1⟩
        obtain ⟨u13, rfl⟩ := ovr_next hb1
        clear hb1
        go_wp2_with fail
        go_ret
        exact ⟨rfl, HUY.out _⟩
      have h1b := decide_eq_false h1
      by_cases h2 : 0 < y2
      · have h2b := decide_eq_true h2
        clear h1 h2
        go_wp2_with fail
        refine (cc1.out _).mono ?_
        rintro e w1 ⟨rfl, hb1⟩
        obtain ⟨u11, rfl⟩ := ovr_next hb1
        clear hb1
        go_wp2_with fail
        refine (cc2.out _).mono ?_
        rintro e w1 ⟨rfl, hb1⟩
        obtain ⟨u12, rfl⟩ := ovr_next hb1
        clear hb1
        go_wp2_with fail
        refine (ck.out _).mono ?_
        rintro e w1 ⟨rfl, hb1⟩
        obtain ⟨u13, rfl⟩ := ovr_next hb1
        clear hb1
        go_wp2_with fail
        go_ret
        exact ⟨rfl, HUY.out _⟩
      have h2b := decide_eq_false h2
      have hm := hmin.out (by omega) (by omega)
      generalize siF c b = gg at *
      obtain ⟨⟨en, ed⟩, ez⟩ := gg
      simp only at hm cC
      obtain ⟨rfl, hm⟩ := hm
      have hmb := decide_eq_true hm
      clear h1 h2 hm
      go_wp2_with fail
      refine (cc1.out _).mono ?_
      rintro e w1 ⟨rfl, hb1⟩
      obtain ⟨u11, rfl⟩ := ovr_next hb1
      clear hb1
      go_wp2_with fail
      refine (cc2.out _).mono ?_
      rintro e w1 ⟨rfl, hb1⟩
      obtain ⟨u12, rfl⟩ := ovr_next hb1
      clear hb1
      go_wp2_with fail
      refine (cC.out _).mono ?_
      rintro e w1 ⟨rfl, hb1⟩
      obtain ⟨u13, rfl⟩ := ovr_next hb1
      clear hb1
      go_upto_region 24 with (refine wpList_store_row rfl 71 _ _ rfl ((ovr X u8).heap.size) rfl _ _ (RrowY0.out _) _ rfl (one2 rfl rfl) rfl (by kernel_rfl) ?_)
      have hXs : (ovr V u1).heap.size < (ovr X u8).heap.size := by
        have h1 := (ovr_below X u8).size
        have h2 := congrArg (fun w : World => w.heap.size) HX.out
        simp at h2
        omega
      have hws : w.heap.size ≤ (ovr X u8).heap.size := (HUX.out u8).size
      obtain ⟨Z, hZ⟩ : ∃ Z, Z = (ovr Y u13).setRow (ovr X u8).heap.size #[I en, I ed] := ⟨_, rfl⟩
      have r17 : Z.heap[(ovr X u8).heap.size]? = some (.cells #[I en, I ed] 71 (0, 0)) := by rw [hZ]; exact setRow_same (RrowY0.out _)
      have r6 : Z.heap[(ovr V u1).heap.size]? = some (.cells #[I fn, I fd] 71 (0, 0)) := by rw [hZ, setRow_other (by omega)]; exact RrowX0.out _
      have e17 : Z.cell? ⟨(ovr X u8).heap.size, 1, none⟩ = some (I ed) := by rw [cell_of_row _ _ _ _ _ _ r17]; rfl
      have e6 : Z.cell? ⟨(ovr V u1).heap.size, 1, none⟩ = some (I fd) := by rw [cell_of_row _ _ _ _ _ _ r6]; rfl
      have hbZ : Hid (Below w.heap.size w Z) := by show Below _ _ _; rw [hZ]; exact below_setRow (HUY.out _) hws _
      rw [← hZ]
      clear hZ r17 r6 hXs hws
      go_wp2_with fail
      refine (ck.out _).mono ?_
      rintro e w9 ⟨rfl, hb9⟩
      have HB9 := Lib.hid (hbZ.out.trans (hb9.mono hbZ.out.size))
      clear hb9
      go_wp2_with fail
      go_ret
      exact ⟨rfl, HB9.out⟩
end Go.Proofs.Ytmadlmmfbpmebaa
