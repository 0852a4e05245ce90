/- Contract of Proves of package finish. -/
import Derived.Test.YtljjpidigckheaaKg
import Derived.DeepKeys
namespace Go.Proofs.Ytljjpidigckheaa.Un
open Go.RowKit
structure PrS where
 m0 : Int
 m1 : Int
 m2 : Int
 z : Int
 sz : Int
 last : Int
def prT (W : Int) (z : Nat → Rng) (g : Bool) (s : PrS) (a w : Int) : PrS := ⟨s.m0 + w, s.m1 + w * (a % W), s.m2 + w * (a / W), s.z + tm9 w (z a.toNat) g, s.sz + max w (-w), a⟩
def prB (n : Nat) (s : PrS) (a w : Int) : Bool := decide (s.last < a) && (decide (a < (n : Int)) && (decide (-1000000 ≤ w) && (decide (w ≤ 1000000) && decide (w ≠ 0))))
def prS (W : Int) (z : Nat → Rng) (g : Bool) (S T : List Int) : Nat → PrS
 | 0 => ⟨0, 0, 0, 0, 0, -1⟩ | k + 1 => prT W z g (prS W z g S T k) (at0 S k) (at0 T k)
def prK (n : Nat) (W : Int) (z : Nat → Rng) (g : Bool) (S T : List Int) : Nat → Bool
 | 0 => true | k + 1 => prK n W z g S T k && prB n (prS W z g S T k) (at0 S k) (at0 T k)
def prEnd (s : PrS) (f : Frc) : Bool := decide (s.m0 = 0) && (decide (s.m1 = 0) && (decide (s.m2 = 0) && decide (fcm ⟨s.z, s.sz⟩ f = 0)))
def prR (x : Sht) (f : Frc) (S T : List Int) (g : Bool) : Bool :=
 if fok f = true ∧ S.length = T.length ∧ S.length ≤ x.s.length then
    if S.length = 0 then decide (f.n = 0) else prK x.s.length x.w (at0 x.s) g S T S.length && prEnd (prS x.w (at0 x.s) g S T S.length) f
 else false
def prX (x : Sht) (f : Frc) (S T : List Int) (g : Bool) : Bool := if okSh x then prR x f S T g else false
theorem prB_iff {n : Nat} {s : PrS} {a w : Int} : prB n s a w = true ↔ s.last < a ∧ a < (n : Int) ∧ -1000000 ≤ w ∧ w ≤ 1000000 ∧ w ≠ 0 := by
 unfold prB
 simp only [Bool.and_eq_true, decide_eq_true_eq]
structure PrBd (n : Nat) (k : Nat) (s : PrS) : Prop where
 m0 : -(k * 1000000) ≤ s.m0 ∧ s.m0 ≤ k * 1000000
 m1 : -(k * 6000000) ≤ s.m1 ∧ s.m1 ≤ k * 6000000
 m2 : -(k * 36000000) ≤ s.m2 ∧ s.m2 ≤ k * 36000000
 z : -(k * 1000000000000) ≤ s.z ∧ s.z ≤ k * 1000000000000
 sz : k ≤ s.sz ∧ s.sz ≤ k * 1000000
 last : (k : Int) - 1 ≤ s.last ∧ (0 < k → s.last < n)
theorem PrBd.zero (n : Nat) : PrBd n 0 ⟨0, 0, 0, 0, 0, -1⟩ := ⟨by simp, by simp, by simp, by simp, by simp, by simp⟩
theorem PrBd.next {n k : Nat} {W : Int} {z : Nat → Rng} {g : Bool} {s : PrS} {a w : Int} (h : PrBd n k s) (hW : 2 ≤ W ∧ W ≤ 6) (hn : n ≤ 36) (hz : ∀ j, j < n → (-1000000 ≤ (z j).lo ∧ (z j).lo ≤ 1000000) ∧ -1000000 ≤ (z j).hi ∧ (z j).hi ≤ 1000000) (hb : prB n s a w = true) : PrBd n (k + 1) (prT W z g s a w) := by
 obtain ⟨h1, h2, h3, h4, h5⟩ := prB_iff.1 hb
 obtain ⟨b0, b1, b2, b3, b4, b5⟩ := h
 have ha : 0 ≤ a := by omega
 have hm := Int.emod_nonneg a (show W ≠ 0 by omega)
 have hm2 := Int.emod_lt_of_pos a (show 0 < W by omega)
 have hd : 0 ≤ a / W := Int.ediv_nonneg ha (by omega)
 have hd2 : a / W ≤ a := Int.ediv_le_self _ ha
 have c1 := mul_bd (a := w) (b := a % W) (A := 1000000) (B := 6) ⟨h3, h4⟩ (by omega)
 have c2 := mul_bd (a := w) (b := a / W) (A := 1000000) (B := 36) ⟨h3, h4⟩ (by omega)
 obtain ⟨⟨z1, z2⟩, z3, z4⟩ := hz a.toNat (by omega)
 have c3 := mul_bd (a := w) (b := (z a.toNat).lo) (A := 1000000) (B := 1000000) ⟨h3, h4⟩ ⟨z1, z2⟩
 have c4 := mul_bd (a := w) (b := (z a.toNat).hi) (A := 1000000) (B := 1000000) ⟨h3, h4⟩ ⟨z3, z4⟩
 have c5 : -1000000000000 ≤ tm9 w (z a.toNat) g ∧ tm9 w (z a.toNat) g ≤ 1000000000000 := by
  unfold tm9
  split <;> omega
 unfold prT
 refine ⟨?_, ?_, ?_, ?_, ?_, ?_⟩ <;> simp only [Int.natCast_add, Int.add_mul] <;> omega
theorem prS_bd {n : Nat} {W : Int} {z : Nat → Rng} {g : Bool} {S T : List Int} (hW : 2 ≤ W ∧ W ≤ 6) (hn : n ≤ 36) (hz : ∀ j, j < n → (-1000000 ≤ (z j).lo ∧ (z j).lo ≤ 1000000) ∧ -1000000 ≤ (z j).hi ∧ (z j).hi ≤ 1000000) : ∀ k, prK n W z g S T k = true → PrBd n k (prS W z g S T k)
 | 0, _ => PrBd.zero n
 | k + 1, h => by
   unfold prK at h
   rw [Bool.and_eq_true] at h
   exact PrBd.next (prS_bd hW hn hz k h.1) hW hn hz h.2
theorem prK_le {n : Nat} {W : Int} {z : Nat → Rng} {g : Bool} {S T : List Int} : ∀ {k m : Nat}, k ≤ m → prK n W z g S T m = true → prK n W z g S T k = true
 | k, 0, h, hm => by obtain rfl : k = 0 := by omega
                     exact hm
 | k, m + 1, h, hm => by
   rcases Nat.lt_or_ge k (m + 1) with h1 | h1
   · unfold prK at hm
     rw [Bool.and_eq_true] at hm
     exact prK_le (by omega) hm.1
   · obtain rfl : k = m + 1 := by omega
     exact hm
theorem eq_step (xs ys : Array Value) (i : Nat) (a b : Int) (hx : xs[i]? = some (I a)) (hy : ys[i]? = some (I b)) (rest : List Nat) (W : World) :
 (Op.eqItems 9999 3 1 xs ys (i :: rest)).run Try.prog W = if a = b then (Op.eqItems 9999 3 1 xs ys rest).run Try.prog W else .ok false W := by
 have hp : Program.plainKey Try.prog 3 = true := by kernel_rfl
 have h1 := run_part_plain (P := Try.prog) W hp (off := i * 1) (by rw [Nat.mul_one]; exact hx)
 have h2 := run_part_plain (P := Try.prog) W hp (off := i * 1) (by rw [Nat.mul_one]; exact hy)
 have h3 := run_equalIn_int (P := Try.prog) W 9998 3 .i64 .i64 a b Try.underlying3
 simp only [Op.eqItems, Sem.run_bind, h1, h2, h3, Result.andThen_ok]
 by_cases h : a = b <;> simp [h]
theorem eq_three (a b c : Int) (W : World) : (Op.equalIn 10000 148 (.agg #[I a, I b, I c]) (.agg #[I 0, I 0, I 0])).run Try.prog W = .ok (decide (a = 0) && (decide (b = 0) && decide (c = 0))) W := by
 have hinfo : (Try.prog.info? 3).map (fun i => i.size) = some 1 := by kernel_rfl
 obtain ⟨i, hi, hs⟩ := Option.map_eq_some_iff.1 hinfo
 rw [run_equalIn_array (P := Try.prog) W 9999 _ _ Try.underlying148 hi]
 have hc : Try.prog.cellsOf 3 = 1 := by unfold Program.cellsOf; rw [hi]; exact hs
 simp only [hc, show List.range 3 = [0, 1, 2] from rfl]
 rw [eq_step _ _ 0 a 0 rfl rfl, eq_step _ _ 1 b 0 rfl rfl, eq_step _ _ 2 c 0 rfl rfl]
 by_cases h1 : a = 0
 · by_cases h2 : b = 0
   · by_cases h3 : c = 0
     · rw [if_pos h1, if_pos h2, if_pos h3]
       simp [h1, h2, h3]
       rfl
     · rw [if_pos h1, if_pos h2, if_neg h3]
       simp [h3]
   · rw [if_pos h1, if_neg h2]
     simp [h2]
 · rw [if_neg h1]
   simp [h1]
structure PrSt (w : World) (x : Sht) (A : Option Addr) (n : Nat) (f : Frc) (SA : Option Addr) (sl sn : Nat) (TA : Option Addr) (tl tn qm : Nat) (s : PrS) (V : World) : Prop where
 rs : V.heap[w.heap.size]? = some (.cells (shA x A n) 37 (0, 0))
 rf : V.heap[w.heap.size + 1]? = some (.cells #[I f.n, I f.d, .slice SA sl sn, .slice TA tl tn] 60 (0, 0))
 rm : V.heap[qm]? = some (.cells #[I s.m0, I s.m1, I s.m2] 148 (0, 0))
 bw : Below w.heap.size w V
 lt : w.heap.size + 1 < qm
theorem prS_at {x : Sht} (ho : okSh x = true) {g : Bool} {S T : List Int} {k : Nat} (h : prK x.s.length x.w (at0 x.s) g S T k = true) : PrBd x.s.length k (prS x.w (at0 x.s) g S T k) := by
 obtain ⟨h1, h2, h3, h4, h5⟩ := okSh_iff.1 ho
 exact prS_bd (by omega) (sh_small ho) (fun j hj => sh_z ho j hj) k h
theorem PrSt.set {w : World} {x : Sht} {A : Option Addr} {n : Nat} {f : Frc} {SA : Option Addr} {sl sn : Nat} {TA : Option Addr} {tl tn qm : Nat} {s s' : PrS} {V : World} {o : Nat} {v : Value} (h : PrSt w x A n f SA sl sn TA tl tn qm s V) (e : (#[I s.m0, I s.m1, I s.m2] : Array Value).setIfInBounds o v = #[I s'.m0, I s'.m1, I s'.m2]) : PrSt w x A n f SA sl sn TA tl tn qm s' (V.setCell ⟨qm, o, none⟩ v) := by
 have hl := h.lt
 refine ⟨sc_other h.rs (by omega), sc_other h.rf (by omega), ?_, sc_below h.bw (by omega) _ _, h.lt⟩
 rw [← e]
 exact Go.Proofs.Ytljjpidigckheaa.Un.rs h.rm o v
theorem ix3 (a b c : Value) (w : World) : (Instr.index 148 (.agg #[a, b, c]) (.int .i64 0)).run Try.prog w = .ok a w ∧ (Instr.index 148 (.agg #[a, b, c]) (.int .i64 1)).run Try.prog w = .ok b w ∧ (Instr.index 148 (.agg #[a, b, c]) (.int .i64 2)).run Try.prog w = .ok c w := ⟨by kernel_rfl, by kernel_rfl, by kernel_rfl⟩
set_option maxRecDepth 100000 in
set_option maxHeartbeats 8000000 in
theorem proves_any (x : Sht) (f : Frc) (S T : List Int) (g : Bool) (A : Option Addr) (n : Nat) (SA TA : Option Addr) (sn tn : Nat) (w : World) (B : Nat) (hB : B ≤ w.heap.size) (hx : Rd w B 2 A x.s.length (rR x.s)) (hs : Rd w B 1 SA S.length (rI S)) (ht : Rd w B 1 TA T.length (rI T)) (hm : S.length ≤ maxLen ∧ T.length ≤ maxLen ∧ x.s.length ≤ maxLen) :
 Calls Try.prog 34 #[.agg (shA x A n), .agg #[I f.n, I f.d, .slice SA S.length sn, .slice TA T.length tn], .bool g] w fun e w' => e = .returned (.tuple #[.bool (prX x f S T g), I (er9 (okSh x))]) ∧ Below w.heap.size w w' := by
 have HRD : Hid (∀ V, Below w.heap.size w V → Rd V B 2 A x.s.length (rR x.s) ∧ Rd V B 1 SA S.length (rI S) ∧ Rd V B 1 TA T.length (rI T) ∧ B ≤ V.heap.size) := fun V hV => ⟨hx.below (hV.mono hB), hs.below (hV.mono hB), ht.below (hV.mono hB), Nat.le_trans hB hV.size⟩
 have HM := Lib.hid hm
 have CS : Hid (∀ V, Below w.heap.size w V → Calls Try.prog 21 #[.agg #[I x.w, I x.h, I x.c.lo, I x.c.hi, .slice A x.s.length n]] V fun e w' => e = .returned (I (er9 (okSh x))) ∧ Below V.heap.size V w') := fun V hV => checkSheet_any x A n V B (HRD.out V hV).2.2.2 (HRD.out V hV).1
 clear hx hB hs ht hm
 obtain ⟨W, hW⟩ : ∃ W, W = ((w.alloc (.cells #[I x.w, I x.h, I x.c.lo, I x.c.hi, .slice A x.s.length n] 37)).alloc (.cells #[I f.n, I f.d, .slice SA S.length sn, .slice TA T.length tn] 60)) := ⟨_, rfl⟩
 have rowW0 : W.heap[w.heap.size]? = some (.cells #[I x.w, I x.h, I x.c.lo, I x.c.hi, .slice A x.s.length n] 37 (0, 0)) := by rw [hW]; exact heap_before (heap_last _ _ _ rfl)
 have yW00 := ovr_cell (W := W) (b := w.heap.size) (o := 0) (v := I x.w) (by rw [cell_of_row _ _ _ _ _ _ rowW0]; rfl)
 have yW01 := ovr_cell (W := W) (b := w.heap.size) (o := 1) (v := I x.h) (by rw [cell_of_row _ _ _ _ _ _ rowW0]; rfl)
 have yW02 := ovr_cell (W := W) (b := w.heap.size) (o := 2) (v := I x.c.lo) (by rw [cell_of_row _ _ _ _ _ _ rowW0]; rfl)
 have yW03 := ovr_cell (W := W) (b := w.heap.size) (o := 3) (v := I x.c.hi) (by rw [cell_of_row _ _ _ _ _ _ rowW0]; rfl)
 have yW04 := ovr_cell (W := W) (b := w.heap.size) (o := 4) (v := .slice A x.s.length n) (by rw [cell_of_row _ _ _ _ _ _ rowW0]; rfl)
 have RrowW0 := Lib.hid (ovr_row rowW0)
 clear rowW0
 have rowW1 : W.heap[w.heap.size + 1]? = some (.cells #[I f.n, I f.d, .slice SA S.length sn, .slice TA T.length tn] 60 (0, 0)) := by rw [hW]; exact heap_last _ _ _ (by simp)
 have yW10 := ovr_cell (W := W) (b := w.heap.size + 1) (o := 0) (v := I f.n) (by rw [cell_of_row _ _ _ _ _ _ rowW1]; rfl)
 have yW11 := ovr_cell (W := W) (b := w.heap.size + 1) (o := 1) (v := I f.d) (by rw [cell_of_row _ _ _ _ _ _ rowW1]; rfl)
 have yW12 := ovr_cell (W := W) (b := w.heap.size + 1) (o := 2) (v := .slice SA S.length sn) (by rw [cell_of_row _ _ _ _ _ _ rowW1]; rfl)
 have yW13 := ovr_cell (W := W) (b := w.heap.size + 1) (o := 3) (v := .slice TA T.length tn) (by rw [cell_of_row _ _ _ _ _ _ rowW1]; rfl)
 have RrowW1 := Lib.hid (ovr_row rowW1)
 clear rowW1
 have HUW : Hid (∀ u, Below w.heap.size w (ovr W u)) := U2 hW
 have HW := Lib.hid hW
 clear hW
 go_enter Try.func34, Try.ntmps34
 go_upto_region 1 with (fail)
 rw [← HW.out]
 obtain ⟨u0, hu0⟩ := ovr_self W
 rw [hu0]
 clear hu0
 rcases ho : okSh x with _ | _
 · rw [ho, er9_f] at CS
   have HF : Hid (prX x f S T g = false) := by show _ = _; unfold prX; rw [ho]; rfl
   have HE9 : Hid (er9 (okSh x) = 2) := by show _ = _; rw [ho]; rfl
   go_wp2_with fail
   refine (CS.out _ (HUW.out u0)).mono ?_
   rintro e w1 ⟨rfl, hb1⟩
   obtain ⟨u1, rfl⟩ := ovr_next hb1
   clear hb1
   go_wp2_with fail
   go_ret2
   exact ⟨by rw [HF.out, HE9.out]; rfl, HUW.out _⟩
 rw [ho, er9_t] at CS
 have HO := Lib.hid ho
 have HE9 : Hid (er9 (okSh x) = 0) := by show _ = _; rw [ho]; rfl
 have HR : Hid (prX x f S T g = prR x f S T g) := by show _ = _; unfold prX; rw [ho]; rfl
 have HRF : Hid (prR x f S T g = if fok f = true ∧ S.length = T.length ∧ S.length ≤ x.s.length then if S.length = 0 then decide (f.n = 0) else prK x.s.length x.w (at0 x.s) g S T S.length && prEnd (prS x.w (at0 x.s) g S T S.length) f else false) := rfl
 go_wp2_with fail
 refine (CS.out _ (HUW.out u0)).mono ?_
 rintro e w1 ⟨rfl, hb1⟩
 obtain ⟨u1, rfl⟩ := ovr_next hb1
 clear hb1
 have CC := Lib.hid fun V => compare_any f f V
 rcases hk : fok f with _ | _
 · have hc : coF f f = (0, 2) := by unfold coF; rw [hk]; rfl
   have HF : Hid (prX x f S T g = false) := by show _ = _; rw [HR.out, HRF.out, if_neg (fun h => by rw [hk] at h; cases h.1)]
   rw [hc] at CC
   clear hc
   go_wp2_with fail
   refine (CC.out _).mono ?_
   rintro e w1 ⟨rfl, hb1⟩
   obtain ⟨u2, rfl⟩ := ovr_next hb1
   clear hb1
   go_wp2_with fail
   go_ret2
   exact ⟨by rw [HF.out, HE9.out]; rfl, HUW.out _⟩
 have hc : coF f f = (fcm f f, 0) := by unfold coF; rw [hk]; rfl
 rw [hc] at CC
 have HK := Lib.hid hk
 clear hc hk ho
 go_wp2_with fail
 refine (CC.out _).mono ?_
 rintro e w1 ⟨rfl, hb1⟩
 obtain ⟨u2, rfl⟩ := ovr_next hb1
 clear hb1
 by_cases h1 : S.length = T.length
 case neg =>
  have HF : Hid (prX x f S T g = false) := by show _ = _; rw [HR.out, HRF.out, if_neg (fun h => h1 h.2.1)]
  have d1 : ((S.length : Int) != (T.length : Int)) = true := bne_iff_ne.2 (by omega)
  have HL1 := Lib.hid h1
  clear h1
  go_wp2_with fail
  go_ret2
  exact ⟨by rw [HF.out, HE9.out]; rfl, HUW.out _⟩
 have d1 : ((S.length : Int) != (T.length : Int)) = false := by rw [bne_eq_false_iff_eq]; omega
 have HL1 := Lib.hid h1
 clear h1
 by_cases h2 : S.length ≤ x.s.length
 case neg =>
  have HF : Hid (prX x f S T g = false) := by show _ = _; rw [HR.out, HRF.out, if_neg (fun h => h2 h.2.2)]
  have d2 : decide ((x.s.length : Int) < (S.length : Int)) = true := decide_eq_true (by omega)
  go_wp2_with fail
  go_ret2
  exact ⟨by rw [HF.out, HE9.out]; rfl, HUW.out _⟩
 have HRF : Hid (prR x f S T g = if S.length = 0 then decide (f.n = 0) else prK x.s.length x.w (at0 x.s) g S T S.length && prEnd (prS x.w (at0 x.s) g S T S.length) f) := by show _ = _; rw [HRF.out, if_pos ⟨HK.out, HL1.out, h2⟩]
 have d2 : decide ((x.s.length : Int) < (S.length : Int)) = false := decide_eq_false (by omega)
 have d3 : decide (x.s.length < S.length) = false := decide_eq_false (by omega)
 by_cases h3 : S.length = 0
 · have HF : Hid (prX x f S T g = decide (f.n = 0)) := by show _ = _; rw [HR.out, HRF.out, if_pos h3]
   have e1 : S = [] := List.length_eq_zero_iff.1 h3
   have e2 : T = [] := List.length_eq_zero_iff.1 (by rw [← HL1.out]; exact h3)
   subst e1 e2
   clear h3
   go_wp2_with fail
   go_ret2
   exact ⟨by rw [HF.out, HE9.out]; rfl, HUW.out _⟩
 have HRF : Hid (prR x f S T g = (prK x.s.length x.w (at0 x.s) g S T S.length && prEnd (prS x.w (at0 x.s) g S T S.length) f)) := by show _ = _; rw [HRF.out, if_neg h3]
 have HL := Lib.hid (And.intro h2 h3)
 have d4 : ((S.length : Int) == 0) = false := by rw [beq_eq_false_iff_ne]; omega
 have h36 := sh_small HO.out
 go_upto_region 10 with fail
 obtain ⟨qm, hqm⟩ : ∃ q, q = (ovr W u2).heap.size := ⟨_, rfl⟩
 obtain ⟨V, hV⟩ : ∃ V, V = (ovr W u2).alloc (.cells #[I 0, I 0, I 0] 148) := ⟨_, rfl⟩
 have hbV : Below (ovr W u2).heap.size (ovr W u2) V := by rw [hV]; exact (Below.refl _ _).alloc (Nat.le_refl _) _
 have rm : V.heap[qm]? = some (.cells #[I 0, I 0, I 0] 148 (0, 0)) := by rw [hV]; exact heap_last _ _ _ hqm
 have rs0 := (hbV.block _ (lt_of_row (RrowW0.out u2))).trans (RrowW0.out u2)
 have rf0 := (hbV.block _ (lt_of_row (RrowW1.out u2))).trans (RrowW1.out u2)
 have HP0 : Hid (PrSt w x A n f SA S.length sn TA T.length tn qm (prS x.w (at0 x.s) g S T 0) V) := ⟨rs0, rf0, rm, (HUW.out u2).trans (hbV.mono (HUW.out u2).size), by rw [hqm]; exact lt_of_row (RrowW1.out u2)⟩
 rw [← hqm, ← hV]
 have s2 := cell_of_row _ _ 2 _ _ _ rf0
 change _ = some (Value.slice SA S.length sn) at s2
 clear hqm hV hbV rm rs0 rf0 d1 d2 d3 d4
 go_wp2_with fail
 clear s2
 go_loopw [63, 11, 12, 13] (fun iv zv sv lv wr => ∃ k : Nat, k ≤ S.length ∧ iv = .int .i64 k ∧ zv = I (prS x.w (at0 x.s) g S T k).z ∧ sv = I (prS x.w (at0 x.s) g S T k).sz ∧ lv = I (prS x.w (at0 x.s) g S T k).last ∧ prK x.s.length x.w (at0 x.s) g S T k = true ∧ PrSt w x A n f SA S.length sn TA T.length tn qm (prS x.w (at0 x.s) g S T k) wr) (fun iv _ _ _ _ => S.length - (intOf iv).toNat)
 case atStart => exact ⟨0, Nat.zero_le _, rfl, rfl, rfl, rfl, rfl, HP0.out⟩
 case round =>
  obtain ⟨k, hk, rfl, rfl, rfl, rfl, hok, hst⟩ := hrel
  rename World => V
  have HST := Lib.hid (And.intro hok hst)
  clear HP0 hst hok
  have hbd := prS_at HO.out HST.out.1
  by_cases hlt : k < S.length
  case neg =>
   obtain rfl : k = S.length := by omega
   have ki : decide ((S.length : Int) < (S.length : Int)) = false := decide_eq_false (by omega)
   have hLL := HL.out
   obtain ⟨E, hE⟩ : ∃ E, prS x.w (at0 x.s) g S T S.length = E := ⟨_, rfl⟩
   rw [hE] at hbd HST HRF ⊢
   have hfk : fok ⟨E.z, E.sz⟩ = true := fok_iff.2 (by have := hbd.z; have := hbd.sz; simp only; omega)
   have hco : coF ⟨E.z, E.sz⟩ f = (fcm ⟨E.z, E.sz⟩ f, 0) := by unfold coF; rw [hfk, HK.out]; rfl
   have CC2 := Lib.hid fun V => compare_any ⟨E.z, E.sz⟩ f V
   rw [hco] at CC2
   obtain ⟨cm, hcm⟩ : ∃ c, fcm ⟨E.z, E.sz⟩ f = c := ⟨_, rfl⟩
   have HPE : Hid (prEnd E f = (decide (E.m0 = 0) && (decide (E.m1 = 0) && (decide (E.m2 = 0) && decide (cm = 0))))) := by show _ = _; unfold prEnd; rw [hcm]
   rw [hcm] at CC2
   have rf := HST.out.2.rf
   have f0 := cell_of_row _ _ 0 _ _ _ rf
   have f1 := cell_of_row _ _ 1 _ _ _ rf
   change _ = some (I f.n) at f0
   change _ = some (I f.d) at f1
   clear hk hlt hE hbd hLL hfk hco hcm rf CC
   go_wp2_with fail
   refine (CC2.out _).mono ?_
   rintro e V1 ⟨rfl, hb1⟩
   have rm := (hb1.block _ (lt_of_row HST.out.2.rm)).trans HST.out.2.rm
   have m0 := cell_of_row _ _ 0 _ _ _ rm
   have m1 := cell_of_row _ _ 1 _ _ _ rm
   have m2 := cell_of_row _ _ 2 _ _ _ rm
   change _ = some (I E.m0) at m0
   change _ = some (I E.m1) at m1
   change _ = some (I E.m2) at m2
   have HBE := Lib.hid (HST.out.2.bw.trans (hb1.mono HST.out.2.bw.size))
   clear rm hb1 f0 f1
   have he3 := fun w => eq_three E.m0 E.m1 E.m2 w
   have HRR : Hid (prX x f S T g = (decide (E.m0 = 0) && (decide (E.m1 = 0) && (decide (E.m2 = 0) && decide (cm = 0))))) := by
        show _ = _
        rw [HR.out, HRF.out, HPE.out, HST.out.1, Bool.true_and]
   rcases hq : (decide (E.m0 = 0) && (decide (E.m1 = 0) && decide (E.m2 = 0))) with _ | _
   · have HF : Hid (prX x f S T g = false) := by
      show _ = _
      rw [HRR.out]
      have : (decide (E.m0 = 0) && (decide (E.m1 = 0) && (decide (E.m2 = 0) && decide (cm = 0)))) = ((decide (E.m0 = 0) && (decide (E.m1 = 0) && decide (E.m2 = 0))) && decide (cm = 0)) := by simp only [Bool.and_assoc]
      rw [this, hq]
      rfl
     have he4 : ∀ w, (Op.equalIn 10000 148 (.agg #[I E.m0, I E.m1, I E.m2]) (.agg #[I 0, I 0, I 0])).run Try.prog w = .ok false w := fun w => by rw [he3, hq]
     clear he3 hq
     go_wp2_with fail
     go_ret2
     exact ⟨by rw [HF.out, HE9.out]; rfl, HBE.out⟩
   · have HF : Hid (prX x f S T g = decide (cm = 0)) := by
      show _ = _
      rw [HRR.out]
      have : (decide (E.m0 = 0) && (decide (E.m1 = 0) && (decide (E.m2 = 0) && decide (cm = 0)))) = ((decide (E.m0 = 0) && (decide (E.m1 = 0) && decide (E.m2 = 0))) && decide (cm = 0)) := by simp only [Bool.and_assoc]
      rw [this, hq]
      rfl
     have he4 : ∀ w, (Op.equalIn 10000 148 (.agg #[I E.m0, I E.m1, I E.m2]) (.agg #[I 0, I 0, I 0])).run Try.prog w = .ok true w := fun w => by rw [he3, hq]
     clear he3 hq
     go_wp2_with fail
     go_ret2
     exact ⟨by rw [HF.out, HE9.out]; rfl, HBE.out⟩
  have HLT := Lib.hid hlt
  have hLL := HL.out
  have ki : decide ((k : Int) < (S.length : Int)) = true := decide_eq_true (by omega)
  have hk36 : k ≤ 36 := by omega
  obtain ⟨sb, so, rfl, _, e0⟩ := rd_int9 (HRD.out V HST.out.2.bw).2.1 hlt
  obtain ⟨tb, tq, rfl, _, t0⟩ := rd_int9 (HRD.out V HST.out.2.bw).2.2.1 (show k < T.length by rw [← HL1.out]; exact hlt)
  have hkT : k < T.length := by rw [← HL1.out]; exact hlt
  have HNX : Hid (prS x.w (at0 x.s) g S T (k + 1) = prT x.w (at0 x.s) g (prS x.w (at0 x.s) g S T k) (at0 S k) (at0 T k)) := rfl
  have HNK : Hid (prK x.s.length x.w (at0 x.s) g S T (k + 1) = (prK x.s.length x.w (at0 x.s) g S T k && prB x.s.length (prS x.w (at0 x.s) g S T k) (at0 S k) (at0 T k))) := rfl
  obtain ⟨E, hE⟩ : ∃ E, prS x.w (at0 x.s) g S T k = E := ⟨_, rfl⟩
  rw [hE] at hbd HST HNX HNK ⊢
  obtain ⟨a, ha⟩ : ∃ a, at0 S k = a := ⟨_, rfl⟩
  obtain ⟨c, hc⟩ : ∃ c, at0 T k = c := ⟨_, rfl⟩
  rw [ha] at e0 HNX HNK
  rw [hc] at t0 HNX HNK
  have rf := HST.out.2.rf
  have rsx := HST.out.2.rs
  have f3 := cell_of_row _ _ 3 _ _ _ rf
  have x4 := cell_of_row _ _ 4 _ _ _ rsx
  have x00 := cell_of_row _ _ 0 _ _ _ rsx
  change _ = some (Value.slice (some ⟨tb, tq, none⟩) T.length tn) at f3
  change _ = some (Value.slice A x.s.length n) at x4
  change _ = some (I x.w) at x00
  clear hk hE ha hc rf rsx CC
  have HBAD : Hid (¬ (E.last < a ∧ a < (x.s.length : Int) ∧ -1000000 ≤ c ∧ c ≤ 1000000 ∧ c ≠ 0) → prX x f S T g = false) := fun h => by
   have hb : prB x.s.length E a c = false := by
        rcases hq : prB x.s.length E a c with _ | _
        · rfl
        · exact absurd (prB_iff.1 hq) h
   rw [HR.out, HRF.out]
   rcases hq : prK x.s.length x.w (at0 x.s) g S T S.length with _ | _
   · rfl
   · have := prK_le (show k + 1 ≤ S.length from HLT.out) hq
     rw [HNK.out, hb, Bool.and_false] at this
     cases this
  go_upto_region 14 with fail
  by_cases c1 : E.last < a
  case neg =>
   have HF := Lib.hid (HBAD.out fun h => c1 h.1)
   have d1 : decide (a ≤ E.last) = true := decide_eq_true (by omega)
   clear c1
   go_wp2_with fail
   go_ret2
   exact ⟨by rw [HF.out, HE9.out]; rfl, HST.out.2.bw⟩
  have d1 : decide (a ≤ E.last) = false := decide_eq_false (by omega)
  by_cases c2 : a < (x.s.length : Int)
  case neg =>
   have HF := Lib.hid (HBAD.out fun h => c2 h.2.1)
   have d2 : decide ((x.s.length : Int) ≤ a) = true := decide_eq_true (by omega)
   clear c1
   go_wp2_with fail
   go_ret2
   exact ⟨by rw [HF.out, HE9.out]; rfl, HST.out.2.bw⟩
  have d2 : decide ((x.s.length : Int) ≤ a) = false := decide_eq_false (by omega)
  by_cases c3 : -1000000 ≤ c
  case neg =>
   have HF := Lib.hid (HBAD.out fun h => c3 h.2.2.1)
   have d3 : decide (c < -1000000) = true := decide_eq_true (by omega)
   clear c1
   go_wp2_with fail
   go_ret2
   exact ⟨by rw [HF.out, HE9.out]; rfl, HST.out.2.bw⟩
  have d3 : decide (c < -1000000) = false := decide_eq_false (by omega)
  by_cases c4 : c ≤ 1000000
  case neg =>
   have HF := Lib.hid (HBAD.out fun h => c4 h.2.2.2.1)
   have d4 : decide (1000000 < c) = true := decide_eq_true (by omega)
   clear c1
   go_wp2_with fail
   go_ret2
   exact ⟨by rw [HF.out, HE9.out]; rfl, HST.out.2.bw⟩
  have d4 : decide (1000000 < c) = false := decide_eq_false (by omega)
  by_cases c5 : c = 0
  · have HF := Lib.hid (HBAD.out fun h => h.2.2.2.2 c5)
    have d5 : (c == 0) = true := beq_iff_eq.2 c5
    clear c5
    clear c1
    go_wp2_with fail
    go_ret2
    exact ⟨by rw [HF.out, HE9.out]; rfl, HST.out.2.bw⟩
  have d5 : (c == 0) = false := by rw [beq_eq_false_iff_ne]; exact c5
  have hpb : prB x.s.length E a c = true := prB_iff.2 ⟨c1, c2, c3, c4, c5⟩
  have HPK : Hid (prK x.s.length x.w (at0 x.s) g S T (k + 1) = true) := by show _ = _; rw [HNK.out, HST.out.1, hpb]; rfl
  have hxok := okSh_iff.1 HO.out
  have hbd2 := PrBd.next (W := x.w) (z := at0 x.s) (g := g) hbd (by omega) h36 (fun j hj => sh_z HO.out j hj) hpb
  have hW0 : 2 ≤ x.w ∧ x.w ≤ 6 := by omega
  clear hxok
  go_upto_region 16 with fail
  obtain ⟨an, rfl⟩ : ∃ n : Nat, a = (n : Int) := ⟨a.toNat, by have := hbd.last; omega⟩
  have ha0 : 0 ≤ (an : Int) ∧ (an : Int) < 36 := by omega
  obtain ⟨px, hpx⟩ : ∃ p, (an : Int) % x.w = p := ⟨_, rfl⟩
  obtain ⟨py, hpy⟩ : ∃ p, (an : Int) / x.w = p := ⟨_, rfl⟩
  have hpx5 : 0 ≤ px ∧ px < 6 := by
   have := Int.emod_nonneg (an : Int) (show x.w ≠ 0 by omega)
   have := Int.emod_lt_of_pos (an : Int) (show 0 < x.w by omega)
   omega
  have hpy5 : 0 ≤ py ∧ py ≤ 36 := by
   have := Int.ediv_nonneg ha0.1 (show 0 ≤ x.w by omega)
   have := Int.ediv_le_self x.w ha0.1
   omega
  have t1 : Int.tmod (an : Int) x.w = px := by rw [← hpx]; exact Int.tmod_eq_emod_of_nonneg ha0.1
  have t2 : Int.tdiv (an : Int) x.w = py := by rw [← hpy]; exact Int.tdiv_eq_ediv_of_nonneg ha0.1
  have j1 : IntKind.i64.wrap px = px := IntWalk.i64_in _ (by omega)
  have j2 : IntKind.i64.wrap py = py := IntWalk.i64_in _ (by omega)
  rw [show prT x.w (at0 x.s) g E (an : Int) c = ⟨E.m0 + c, E.m1 + c * px, E.m2 + c * py, E.z + tm9 c (at0 x.s an) g, E.sz + max c (-c), (an : Int)⟩ by unfold prT; rw [hpx, hpy]; rfl] at HNX hbd2
  have HB2 := Lib.hid hbd2
  have HBD := Lib.hid hbd
  have v00 := ovr_cell x00
  have hx0 : (x.w = 0) = False := eq_false (by omega)
  have HAA := Lib.hid (And.intro ha0 (And.intro c2 (And.intro c3 c4)))
  clear c1 c2 c3 c4 c5 hpb hbd hbd2 hLL hpx hpy HBAD e0 t0 f3
  refine wp_region_make (fun _ => none) (by kernel_rfl) (by kernel_rfl) (by kernel_rfl) ?_
  repeat (first | (refine wpG_one rfl rfl rfl ?_; intro K hK; go_big_quiet_op; go_big_quiet_on) | (refine wpG_skip rfl ?_; simp only [Act.put, List.setIfInBounds_toArray, List.set_cons_zero, List.set_cons_succ]))
  refine wpG_nil (fun w5 hw5 hG => ?_)
  have hb5 : Below V.heap.size V w5 := hw5.le
  have HS5 : Hid (PrSt w x A n f (some ⟨sb, so, none⟩) S.length sn (some ⟨tb, tq, none⟩) T.length tn qm E w5) :=
   ⟨(hb5.block _ (lt_of_row HST.out.2.rs)).trans HST.out.2.rs, (hb5.block _ (lt_of_row HST.out.2.rf)).trans HST.out.2.rf, (hb5.block _ (lt_of_row HST.out.2.rm)).trans HST.out.2.rm, HST.out.2.bw.trans (hb5.mono HST.out.2.bw.size), HST.out.2.lt⟩
  clear hG hw5 hb5 v00 x00 x4 t1 t2 j1 j2 hx0
  have i0 := fun w => (ix3 (I 1) (I px) (I py) w).1
  have i1 := fun w => (ix3 (I 1) (I px) (I py) w).2.1
  have i2 := fun w => (ix3 (I 1) (I px) (I py) w).2.2
  go_wp2_with fail
  refine wp_loop_rounds 4 ?_
  rw [rounds_succ]
  have m0 : IntKind.i64.wrap c = c := IntWalk.i64_in _ (by have := HAA.out; omega)
  have m1 : IntKind.i64.wrap (E.m0 + c) = E.m0 + c := IntWalk.i64_in _ (by have := HB2.out.m0; simp only at this; omega)
  have b1 := mul_bd (a := c) (b := px) (A := 1000000) (B := 6) (by have := HAA.out; omega) (by omega)
  have b2 := mul_bd (a := c) (b := py) (A := 1000000) (B := 36) (by have := HAA.out; omega) (by omega)
  have m2 : IntKind.i64.wrap (c * px) = c * px := IntWalk.i64_in _ (by omega)
  have m3 : IntKind.i64.wrap (E.m1 + c * px) = E.m1 + c * px := IntWalk.i64_in _ (by have := HB2.out.m1; simp only at this; omega)
  have m4 : IntKind.i64.wrap (c * py) = c * py := IntWalk.i64_in _ (by omega)
  have m5 : IntKind.i64.wrap (E.m2 + c * py) = E.m2 + c * py := IntWalk.i64_in _ (by have := HB2.out.m2; simp only at this; omega)
  clear b1 b2
  have r0 := HS5.out.rm
  have y0 := cell_of_row _ _ 0 _ _ _ r0
  change _ = some (I E.m0) at y0
  have z0 := frozen_of_row _ _ 0 _ _ r0
  clear r0
  go_wp2_with fail
  refine name_rounds fun V1 hV1 => ?_
  have HS6 : Hid (PrSt w x A n f (some ⟨sb, so, none⟩) S.length sn (some ⟨tb, tq, none⟩) T.length tn qm ⟨E.m0 + c, E.m1, E.m2, E.z, E.sz, E.last⟩ V1) := by show PrSt _ _ _ _ _ _ _ _ _ _ _ _ _ _; rw [hV1]; exact HS5.out.set rfl
  clear hV1 y0 z0
  rw [rounds_succ]
  have r0 := HS6.out.rm
  have y0 := cell_of_row _ _ 1 _ _ _ r0
  change _ = some (I E.m1) at y0
  have z0 := frozen_of_row _ _ 1 _ _ r0
  clear r0
  go_wp2_with fail
  refine name_rounds fun V2 hV2 => ?_
  have HS7 : Hid (PrSt w x A n f (some ⟨sb, so, none⟩) S.length sn (some ⟨tb, tq, none⟩) T.length tn qm ⟨E.m0 + c, E.m1 + c * px, E.m2, E.z, E.sz, E.last⟩ V2) := by show PrSt _ _ _ _ _ _ _ _ _ _ _ _ _ _; rw [hV2]; exact HS6.out.set rfl
  clear hV2 y0 z0
  rw [rounds_succ]
  have r0 := HS7.out.rm
  have y0 := cell_of_row _ _ 2 _ _ _ r0
  change _ = some (I E.m2) at y0
  have z0 := frozen_of_row _ _ 2 _ _ r0
  clear r0
  go_wp2_with fail
  refine name_rounds fun V3 hV3 => ?_
  have HS8 : Hid (PrSt w x A n f (some ⟨sb, so, none⟩) S.length sn (some ⟨tb, tq, none⟩) T.length tn qm ⟨E.m0 + c, E.m1 + c * px, E.m2 + c * py, E.z, E.sz, E.last⟩ V3) := by show PrSt _ _ _ _ _ _ _ _ _ _ _ _ _ _; rw [hV3]; exact HS7.out.set rfl
  clear hV3 y0 z0 m0 m1 m2 m3 m4 m5 i0 i1 i2
  rw [rounds_succ]
  go_upto_region 21 with fail
  have hlen : an < x.s.length := by have := HAA.out; omega
  obtain ⟨xb, xo, rfl, _, e0, e1⟩ := (HRD.out V3 HS8.out.bw).1.rng hlen
  have rsx := HS8.out.rs
  have x4 := cell_of_row _ _ 4 _ _ _ rsx
  change _ = some (Value.slice (some ⟨xb, xo, none⟩) x.s.length n) at x4
  have hrng := sh_z HO.out an hlen
  obtain ⟨r, hr⟩ : ∃ r, at0 x.s an = r := ⟨_, rfl⟩
  rw [hr] at e0 e1 HNX HB2 hrng
  have ks : wrap64 (-c) = -c := by have := HAA.out; unfold wrap64; omega
  have kz : IntKind.i64.wrap (E.sz + max c (-c)) = E.sz + max c (-c) := IntWalk.i64_in _ (by have := HB2.out.sz; simp only at this; omega)
  have hHz := HB2.out.z
  simp only at hHz
  have hcc : -1000000 ≤ c ∧ c ≤ 1000000 := by have := HAA.out; omega
  have b1 := mul_bd (a := c) (b := r.hi) (A := 1000000) (B := 1000000) hcc (by omega)
  have b2 := mul_bd (a := c) (b := r.lo) (A := 1000000) (B := 1000000) hcc (by omega)
  have l1 : IntKind.i64.wrap (c * r.hi) = c * r.hi := IntWalk.i64_in _ (by omega)
  have l2 : IntKind.i64.wrap (c * r.lo) = c * r.lo := IntWalk.i64_in _ (by omega)
  have hEz := HBD.out.z
  have l3 : IntKind.i64.wrap (E.z + c * r.hi) = E.z + c * r.hi := IntWalk.i64_in _ (by omega)
  have l4 : IntKind.i64.wrap (E.z + c * r.lo) = E.z + c * r.lo := IntWalk.i64_in _ (by omega)
  have HTM : Hid (tm9 c r g = if decide (0 < c) == g then c * r.hi else c * r.lo) := rfl
  clear rsx hr hrng hHz b1 b2 hEz hcc
  rcases hg : (decide (0 < c) == g) with _ | _
  · have HTV : Hid (tm9 c r g = c * r.lo) := by show _ = _; rw [HTM.out, hg]; rfl
    go_wp2_with fail
    go_roundw
    case rel => exact ⟨k + 1, HLT.out, by go_num, by rw [HNX.out, HTV.out], by rw [HNX.out], by rw [HNX.out], HPK.out, by rw [HNX.out]; exact ⟨HS8.out.rs, HS8.out.rf, HS8.out.rm, HS8.out.bw, HS8.out.lt⟩⟩
    case measure => have := HLT.out; simp [intOf]; omega
  · have HTV : Hid (tm9 c r g = c * r.hi) := by show _ = _; rw [HTM.out, hg]; rfl
    go_wp2_with fail
    go_roundw
    case rel => exact ⟨k + 1, HLT.out, by go_num, by rw [HNX.out, HTV.out], by rw [HNX.out], by rw [HNX.out], HPK.out, by rw [HNX.out]; exact ⟨HS8.out.rs, HS8.out.rf, HS8.out.rm, HS8.out.bw, HS8.out.lt⟩⟩
    case measure => have := HLT.out; simp [intOf]; omega
end Go.Proofs.Ytljjpidigckheaa.Un
