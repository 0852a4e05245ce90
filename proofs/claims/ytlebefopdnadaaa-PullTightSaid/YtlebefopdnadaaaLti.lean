/- The law PullTight holds of every puller, run and crystal: the walk of the statement's function. -/
import Derived.Test.YtlebefopdnadaaaQr
import Derived.Test.YtlebefopdnadaaaLk
namespace Go.Proofs.Ytlebefopdnadaaa
open Go.RowKit
abbrev tghArr (A B C : Option Addr) (a b c : Nat) (x : Cry) (m : Int) : Array Value := #[.int .u16 x.f, .slice A x.st.length a, .slice B x.sn.length b, .slice C x.ar.length c, .int .u16 m]
/-- One of two numbers. -/
def ZF (a b : Int) (u : Value) (_ : World) : Prop := ∃ z, u = I z ∧ (z = a ∨ z = b)
set_option maxRecDepth 100000 in
set_option maxHeartbeats 4000000 in
theorem pullTight_any (p : Vec) (A1 A2 A3 : Option Addr) (c1 c2 c3 : Nat) (R : Run) (A B C : Option Addr) (a b c : Nat) (x : Cry) (m : Int) (hm : 0 ≤ m ∧ m ≤ 65535) (w : World)
    (h1 : Rd w w.heap.size 8 A1 R.ss.length (rS R.ss)) (h2 : Rd w w.heap.size 3 A2 R.ms.length (rM R.ms)) (h3 : Rd w w.heap.size 2 A3 R.es.length (rE R.es)) (hC : CryIn w A B C x) :
    Calls Try.prog 9 #[.agg (ia 117 p), runV A1 A2 A3 c1 c2 c3 R, .agg (tghArr A B C a b c x m)] w fun e w' => e = .returned (.bool true) ∧ Below w.heap.size w w' := by
  obtain ⟨W0, hW0⟩ : ∃ W0, W0 = ((w.alloc (.cells (ia 117 p) 30)).alloc (.cells (rnArr A1 A2 A3 c1 c2 c3 R) 35)).alloc (.cells (tghArr A B C a b c x m) 93) := ⟨_, rfl⟩
  have T0 : Hid (TriW w W0 p (rnArr A1 A2 A3 c1 c2 c3 R) (tghArr A B C a b c x m) 93) := by rw [hW0]; exact tri_mk _ _ _ _ _
  have HW := Lib.hid hW0
  have HC := Lib.hid hC
  have HR : Hid (Rd w w.heap.size 8 A1 R.ss.length (rS R.ss) ∧ Rd w w.heap.size 3 A2 R.ms.length (rM R.ms) ∧ Rd w w.heap.size 2 A3 R.es.length (rE R.es)) := ⟨h1, h2, h3⟩
  clear hW0 hC h1 h2 h3
  go_enter Try.func9, Try.ntmps9
  go_upto_region 1 with (fail)
  rw [← HW.out]
  obtain ⟨x0, x1, x2, x3⟩ := T0.out.rcells
  have z0 := T0.out.ccell (j := 0) rfl
  have z1 := T0.out.ccell (j := 1) rfl
  have z2 := T0.out.ccell (j := 2) rfl
  have z3 := T0.out.ccell (j := 3) rfl
  go_wp2_with (refine wpList_load_ia rfl 30 _ rfl w.heap.size 0 rfl 117 p _ (fun j hj => T0.out.pcell hj) Try.underlying30 rfl (by kernel_rfl) ?_)
  clear x0 x1 x2 x3 z0 z1 z2 z3
  obtain ⟨r1, r2, r3⟩ := HR.out
  have hle0 := T0.out.le
  refine (seen_any p A1 A2 A3 c1 c2 c3 R A B C a b c x W0 ((r1.below hle0).more hle0.size) ((r2.below hle0).more hle0.size) ((r3.below hle0).more hle0.size) (HC.out.below hle0)).mono ?_
  rintro e W1 ⟨E1, E2, E3, e1, e2, e3, R', D, n, d, ok, rfl, hok, hb1⟩
  have T1 := Lib.hid (T0.out.next hb1)
  have Hok := Lib.hid hok
  clear hle0 r1 r2 r3 hok hb1
  go_upto_region 2 with (refine wpList_store_row rfl 35 _ _ rfl (w.heap.size + 1) rfl _ _ T1.out.rn (rnArr E1 E2 E3 e1 e2 e3 R') rfl (rn_one _ _ _ _ _ _ _) rfl (by kernel_rfl) ?_)
  have T2 := Lib.hid (T1.out.setRun (rnArr E1 E2 E3 e1 e2 e3 R'))
  have hsz0 := T0.out.sz
  have Hok2 : Hid (ok = true → SeenOk W0.heap.size W1 p R R' x E1 E2 E3 e2 D n ∧ FRun W0.heap.size (W1.setRow (w.heap.size + 1) (rnArr E1 E2 E3 e1 e2 e3 R')) E1 E2 E3 R' ∧ FR W0.heap.size (W1.setRow (w.heap.size + 1) (rnArr E1 E2 E3 e1 e2 e3 R')) 1 D n (rCr p x)) := fun h =>
    ⟨Hok.out h, (Hok.out h).run.set (by omega) _, (Hok.out h).crs.set (by omega) _⟩
  generalize W1.setRow (w.heap.size + 1) (rnArr E1 E2 E3 e1 e2 e3 R') = W2 at *
  clear hsz0 Hok
  have HU : Hid (∀ W, Le W2 W → Below w.heap.size w W) := fun W hW => (T2.out.next hW).le
  have HP : Hid (∀ W, Le W2 W → ∀ j, j < 117 → W.cell? ⟨w.heap.size, 0 + j, none⟩ = some (I (p j))) := fun W hW j hj => (T2.out.next hW).pcell hj
  have HX : Hid (∀ W, Le W2 W → W.cell? ⟨w.heap.size + 1, 0, none⟩ = some (.slice E1 R'.ss.length e1) ∧ W.cell? ⟨w.heap.size + 1, 1, none⟩ = some (I R'.e) ∧ W.cell? ⟨w.heap.size + 1, 2, none⟩ = some (.slice E2 R'.ms.length e2) ∧ W.cell? ⟨w.heap.size + 1, 3, none⟩ = some (.slice E3 R'.es.length e3)) := fun W hW => (T2.out.next hW).rcells
  have L2 : Hid (Le W2 W2) := Le.refl _
  have HM : Hid (∀ W, Le W2 W → W.cell? ⟨w.heap.size + 2, 4, none⟩ = some (.int .u16 m)) := fun W hW => (T2.out.next hW).ccell (j := 4) rfl
  have Hm := Lib.hid hm
  clear hm
  rcases ok with _ | _
  case false =>
    clear Hok2
    go_wp2_with fail
    refine (known_any W2).mono ?_
    rintro e WK ⟨rfl, hb⟩
    have LK : Hid (Below w.heap.size w WK) := HU.out _ ((L2.out).trans hb)
    clear hb
    go_wp2_with fail
    go_ret
    exact ⟨rfl, LK.out⟩
  obtain ⟨ho, hF, hD⟩ := Hok2.out rfl
  have HI : Hid (∀ W, Le W2 W → RunIn W E1 E2 E3 R') := fun W hW => (hF.below hW).run
  have HDD : Hid (∀ W, Le W2 W → Rd W W.heap.size 1 D n (rCr p x)) := fun W hW => (hD.below hW).rd
  have Ho := Lib.hid ho
  have Hvr := Lib.hid ((vRun_iff R').1 ho.vr)
  have Hvp := Lib.hid (vPul_of ho.vp)
  have Htc := Lib.hid (trueC_of Hvp.out HC.out.f ho.tr)
  have Hcf := Lib.hid (conf_true Htc.out Hvr.out)
  obtain ⟨N, hN⟩ : ∃ N : Nat, R'.e = N := ⟨R'.e.toNat, by have := ho.e; have := ho.e1; omega⟩
  have HN := Lib.hid hN
  have hN1 : 1 ≤ N ∧ N ≤ 200 := by have := ho.e; have := ho.e1; have := ho.e2; omega
  have Hn : Hid (n = N + 1) := by show _ = _; rw [ho.n_, ← ho.e, hN]; rfl
  have HNt : Hid (R'.e.toNat = N) := by show _ = _; rw [hN]; rfl
  have Hvk : Hid (okPuller p = true ∧ okRun R' = true) := ⟨ho.vp, ho.vr⟩
  clear ho hF hD hN
  have Hms60 : Hid (R'.ms.length ≤ 60) := (Hok2.out rfl).1.ms60
  obtain ⟨k0, k1, k2, k3⟩ := HX.out W2 L2.out
  by_cases hms : R'.ms.length = 0
  · rw [hms] at k2
    clear hms
    go_wp2_with fail
    clear k0 k1 k2 k3
    refine (known_any W2).mono ?_
    rintro e WK ⟨rfl, hb⟩
    have LK : Hid (Below w.heap.size w WK) := HU.out _ ((L2.out).trans hb)
    clear hb
    go_wp2_with fail
    go_ret
    exact ⟨rfl, LK.out⟩
  have hpos : 0 < R'.ms.length := by omega
  have hmz : ((R'.ms.length : Int) == 0) = false := by rw [beq_eq_false_iff_ne]; omega
  obtain ⟨bD, oD, rfl, hBD, hcD⟩ := HDD.out W2 (Le.refl _) (by rw [Hn.out]; omega)
  have HDc : Hid (∀ W, Le W2 W → ∀ j, j < N + 1 → W.cell? ⟨bD, oD + j, none⟩ = some (I (crs p x j))) := fun W hW j hj => by
    have := hcD j (by rw [Hn.out]; exact hj) 0 (by omega)
    rw [Nat.mul_one, Nat.add_zero] at this
    exact (Below.cell hW (p := ⟨bD, oD + j, none⟩) hBD).trans this
  obtain rfl : n = N + 1 := Hn.out
  have Hpos := Lib.hid hpos
  have HE0 : Hid (0 ≤ R'.e ∧ R'.e ≤ 200) := by show _ ∧ _; rw [HN.out]; omega
  have km := HM.out W2 L2.out
  have hwe : IntKind.i64.wrap (R'.e + 1) = R'.e + 1 := IntWalk.i64_in _ (by have := HE0.out; omega)
  have hez : ((R'.e + 1) == 0) = false := by rw [beq_eq_false_iff_ne]; have := HE0.out; omega
  have hez2 : ¬ (R'.e + 1 = 0) := by have := HE0.out; omega
  have wm : IntKind.i64.wrap m = m := IntWalk.i64_in _ (by have := Hm.out; omega)
  have HN1 := Lib.hid hN1
  clear hBD hcD hpos hms hN1
  go_upto_region 5 with (fail)
  obtain ⟨tn, ht⟩ : ∃ tn : Nat, m.tmod (R'.e + 1) = (tn : Int) := ⟨(m.tmod (R'.e + 1)).toNat, by have := Int.tmod_nonneg (R'.e + 1) Hm.out.1; omega⟩
  have HT : Hid ((tn : Int) ≤ R'.e) := by
    have h2 := Int.tmod_lt_of_pos m (show 0 < R'.e + 1 by have := HE0.out; omega)
    rw [ht] at h2
    exact (by omega : (tn : Int) ≤ R'.e)
  rw [ht]
  clear ht hez hez2 wm hwe km hmz k0 k1 k2 k3
  have hsx := at_some Hvr.out Hpos.out (p := p) (t := tn) HT.out
  have Htx : Hid ((atK p R' tn).lo ≤ crs p x tn ∧ crs p x tn ≤ (atK p R' tn).hi) := inK_at Htc.out (t := tn) (by have := HT.out; omega) hsx
  have hbx := at_bd Hvr.out Hvp.out (t := tn) (by have := HT.out; have := HE0.out; omega)
  have CX : Hid (∀ W Q1 Q2 Q3 q1 q2 q3, RunIn W Q1 Q2 Q3 R' → R'.ms.length ≤ q2 → Calls Try.prog 28 #[.agg (ia 117 p), runV Q1 Q2 Q3 q1 q2 q3 R', I tn] W fun e w' => e = .returned (.tuple #[.agg #[I (atK p R' tn).lo, I (atK p R' tn).hi], I 0]) ∧ Below W.heap.size W w') := fun W Q1 Q2 Q3 q1 q2 q3 hr hc => by
    have := diameter_any Q1 Q2 Q3 q1 q2 q3 p R' (tn : Int) W hr hc
    have ht := tellE_ok Hvk.out.1 Hvk.out.2 Hcf.out Hpos.out (t := (tn : Int)) (last := R'.e) ⟨by omega, HT.out⟩
    rw [tellR_ok ht, ht, Int.toNat_natCast] at this
    exact this
  have HK : Hid (∀ v, noT R' tn → (conf p (withR R' ⟨(tn : Int), v, v⟩) = none ↔ (atK p R' tn).lo ≤ v ∧ v ≤ (atK p R' tn).hi)) := fun v hn => by
    rw [conf_with Hvr.out Hcf.out HT.out hn v]
    exact ⟨fun h => h hsx, fun h _ => h⟩
  have CW : Hid (∀ v W, Le W2 W → Calls Try.prog 41 #[runV E1 E2 E3 e1 e2 e3 R', I tn, .agg #[I v, I v]] W (RetWith W E1 E3 e1 e3 R' ⟨(tn : Int), v, v⟩)) := fun v W hW => with_any E1 E2 E3 e1 e2 e3 R' ⟨(tn : Int), v, v⟩ W (HI.out W hW) (by have := Hms60.out; omega)
  have Hat : Hid (∀ q RM c, Tgt p q R' RM → TrueC q RM c → (atK p R' tn).lo ≤ (atK q RM tn).lo ∧ (atK q RM tn).hi ≤ (atK p R' tn).hi) := fun q RM c h1 h2 => (h1.atLe h2 HT.out hsx).2
  clear hsx
  generalize (atK p R' tn).lo = X0 at *
  generalize (atK p R' tn).hi = X1 at *
  have Hbx := Lib.hid hbx
  clear hbx
  obtain ⟨k0, k1, k2, k3⟩ := HX.out W2 (L2.out)
  have v0 := ovr_cell k0
  have v1 := ovr_cell k1
  have v2 := ovr_cell k2
  have v3 := ovr_cell k3
  clear k0 k1 k2 k3
  refine wp_region_make_two (fun j => if j = 0 then some (fun u _ => u = .agg (ia 117 p)) else if j = 2 then some (OwnF R') else if j = 4 then some (fun u _ => u = .tuple #[.agg #[I X0, I X1], I 0]) else if j = 8 then some (NewAt W2 #[I 0, I 0] 23) else none) [7] (by kernel_rfl) (by kernel_rfl) (by kernel_rfl) (by kernel_rfl) (by kernel_rfl) (by intro i hi; simp at hi; subst hi; rfl) ⟨rfl, rfl⟩ (fun c a d v w h => by cases d <;> exact h) ?_
  simp only [sleepTwo_cons, sleepTwo_two]
  refine wpG_make (fun u _ => u = .agg (ia 117 p)) rfl rfl (fun w' hw' _ => ?_) (fun u hu => ?_)
  · exact load_grow rfl rfl (HP.out w' ((L2.out).trans hw'.le))
  obtain ⟨_, _, rfl⟩ := hu
  simp only [Act.put, List.setIfInBounds_toArray, List.set_cons_zero, List.set_cons_succ]
  repeat (refine wpG_one rfl rfl rfl ?_; intro K hK; go_big_quiet_op; go_big_quiet_on)
  refine wpG_make (OwnF R') rfl rfl (fun w' hw' _ => ?_) (fun u hu => ?_)
  · go_simp
    exact own_grow (own_any _ _ _ _ _ _ R' w' (HI.out _ ((L2.out).trans hw'.le)))
  obtain ⟨_, _, B1, B2, B3, d1, d2, d3, rfl, _, _⟩ := hu
  simp only [Act.put, List.setIfInBounds_toArray, List.set_cons_zero, List.set_cons_succ]
  repeat (refine wpG_one rfl rfl rfl ?_; intro K hK; go_big_quiet_op; go_big_quiet_on)
  refine wpG_make (fun u _ => u = .tuple #[.agg #[I X0, I X1], I 0]) rfl rfl (fun w' hw' hk => ?_) (fun u hu => ?_)
  · have hk3 := hk ⟨2, .data⟩ (by simp) rfl _ _ _ rfl rfl rfl (by simp) rfl
    obtain ⟨Q1, Q2, Q3, q1, q2, q3, he, hr, hc⟩ := hk3.now
    go_simp
    exact call_grow (CX.out _ _ _ _ _ _ _ hr hc)
  obtain ⟨_, _, rfl⟩ := hu
  skip
  simp only [Act.put, List.setIfInBounds_toArray, List.set_cons_zero, List.set_cons_succ]
  repeat (refine wpG_one rfl rfl rfl ?_; intro K hK; go_big_quiet_op; go_big_quiet_on)
  refine wpG_make (NewAt W2 #[I 0, I 0] 23) rfl rfl (fun w' hw' _ => ?_) (fun u hu => ?_)
  · go_simp
    exact new_grow hw'
  obtain ⟨_, _, xa, rfl, _, hxb⟩ := hu
  simp only [Act.put, List.setIfInBounds_toArray, List.set_cons_zero, List.set_cons_succ]
  repeat (refine wpG_one rfl rfl rfl ?_; intro K hK; go_big_quiet_op; go_big_quiet_on)
  refine wpG_nil (fun w5 hw5 hG => ?_)
  have hx5 := (Box.now hG.2).at.1
  intro s t hs ht
  obtain rfl := Option.some.inj hs
  obtain rfl := Option.some.inj ht
  clear hG hs ht
  refine wp_store_row 23 _ _ rfl xa rfl _ _ hx5 #[I X0, I X1] rfl (two2 _ _) rfl (by kernel_rfl) ?_
  refine ⟨hw5.set hxb _, ?_⟩
  refine wp_assign _ (I 0) rfl rfl ?_
  refine ⟨hw5.set hxb _, ?_⟩
  simp only [Act.put, List.setIfInBounds_toArray, List.set_cons_zero, List.set_cons_succ]
  have q0 : (w5.setRow xa #[I X0, I X1]).heap[xa]? = some (.cells #[I X0, I X1] 23 (0, 0)) := setRow_same hx5
  have hle : Le W2 (w5.setRow xa #[I X0, I X1]) := below_setRow hw5.le hxb _
  generalize w5.setRow xa #[I X0, I X1] = W3 at *
  have LW3 : Hid (Le W2 W3) := hle
  have QW3 : Hid (∀ W, Le W3 W → W.cell? ⟨xa, 0, none⟩ = some (I X0) ∧ W.cell? ⟨xa, 1, none⟩ = some (I X1)) := fun W hW => by
    have h1 := (Below.block hW _ (Array.getElem?_eq_some_iff.1 q0).1).trans q0
    exact ⟨by rw [cell_of_row _ _ _ _ _ _ h1]; rfl, by rw [cell_of_row _ _ _ _ _ _ h1]; rfl⟩
  clear hx5 hw5 hxb q0 hle v0 v1 v2 v3
  have L3 : Hid (Le W2 W3) := LW3.out
  obtain ⟨a0, a1⟩ := QW3.out W3 (Le.refl _)
  have hw1 : IntKind.i64.wrap (X0 - 1) = X0 - 1 := IntWalk.i64_in _ (by have := Hbx.out; omega)
  have hw2 : IntKind.i64.wrap (X1 + 1) = X1 + 1 := IntWalk.i64_in _ (by have := Hbx.out; omega)
  clear CX
  go_upto_region 9 with (fail)
  obtain ⟨V4, hV4⟩ : ∃ V, V = W3.alloc (.cells #[I X0, I X1, .int .i64 (X0 - 1), .int .i64 (X1 + 1)] 3) := ⟨_, rfl⟩
  rw [← hV4]
  have h34 : Le W3 V4 := by rw [hV4]; exact (Below.refl _ _).alloc (Nat.le_refl _) _
  have r4 : V4.heap[W3.heap.size]? = some (.cells #[I X0, I X1, I (X0 - 1), I (X1 + 1)] 3 (0, 0)) := by rw [hV4]; exact heap_last _ _ _ rfl
  have LV4 : Hid (Le W2 V4) := L3.out.trans h34
  have L3V4 : Hid (Le W3 V4) := h34
  obtain ⟨en, hen⟩ : ∃ en : List Int, en = [X0, X1, X0 - 1, X1 + 1] := ⟨_, rfl⟩
  have HEn : Hid (∀ k, k < 4 → ∀ W, Le V4 W → W.cell? ⟨W3.heap.size, k, none⟩ = some (I (at0 en k))) := fun k hk W hW => by
    have h1 := (Below.block hW _ (Array.getElem?_eq_some_iff.1 r4).1).trans r4
    rw [cell_of_row _ _ _ _ _ _ h1, hen]
    rcases k with _ | _ | _ | _ | k
    · rfl
    · rfl
    · rfl
    · rfl
    · omega
  have HKn : Hid (∀ k, k < 4 → noT R' tn → (conf p (withR R' ⟨(tn : Int), at0 en k, at0 en k⟩)).isSome = decide (2 ≤ k)) := fun k hk hn => by
    have h := HK.out (at0 en k) hn
    have hx := Htx.out
    rw [hen] at h ⊢
    rcases k with _ | _ | _ | _ | k
    · have h : conf p (withR R' ⟨(tn : Int), X0, X0⟩) = none := h.2 ⟨Int.le_refl _, (by omega : X0 ≤ X1)⟩
      show (conf p (withR R' ⟨(tn : Int), X0, X0⟩)).isSome = _
      rw [h]; rfl
    · have h : conf p (withR R' ⟨(tn : Int), X1, X1⟩) = none := h.2 ⟨(by omega : X0 ≤ X1), Int.le_refl _⟩
      show (conf p (withR R' ⟨(tn : Int), X1, X1⟩)).isSome = _
      rw [h]; rfl
    · have h : ¬ conf p (withR R' ⟨(tn : Int), X0 - 1, X0 - 1⟩) = none := fun e => by
        have h2 : X0 ≤ X0 - 1 ∧ X0 - 1 ≤ X1 := h.1 e
        omega
      show (conf p (withR R' ⟨(tn : Int), X0 - 1, X0 - 1⟩)).isSome = _
      rcases hc : conf p (withR R' ⟨(tn : Int), X0 - 1, X0 - 1⟩) with _ | q
      · exact absurd hc h
      · rfl
    · have h : ¬ conf p (withR R' ⟨(tn : Int), X1 + 1, X1 + 1⟩) = none := fun e => by
        have h2 : X0 ≤ X1 + 1 ∧ X1 + 1 ≤ X1 := h.1 e
        omega
      show (conf p (withR R' ⟨(tn : Int), X1 + 1, X1 + 1⟩)).isSome = _
      rcases hc : conf p (withR R' ⟨(tn : Int), X1 + 1, X1 + 1⟩) with _ | q
      · exact absurd hc h
      · rfl
    · omega
  clear hV4 h34 r4 hen HK a0 a1 hw1 hw2
  generalize W3.heap.size = eb at *
  go_wp2_with fail
  go_loopw [13, 14, 15, 16, 17, 18] (fun i _ _ _ _ _ wr => ∃ k : Nat, k ≤ 4 ∧ i = .int .i64 k ∧ Le V4 wr) (fun i _ _ _ _ _ _ => 4 - (intOf i).toNat)
  case atStart => exact ⟨0, by omega, rfl, Le.refl _⟩
  case round =>
    rename World => Y0
    obtain ⟨k, hk, rfl, hbw⟩ := hrel
    have L4Y0 : Hid (Le V4 Y0) := hbw
    have LY0 : Hid (Le W2 Y0) := LV4.out.trans hbw
    clear hbw
    by_cases hlt : k < 4
    · have hki : decide ((k : Int) < 4) = true := decide_eq_true (by omega)
      have hkn : decide (k < 4) = true := decide_eq_true hlt
      have hk0' : decide (0 ≤ (k : Int)) = true := decide_eq_true (by omega)
      have hcell := HEn.out k hlt Y0 L4Y0.out
      have HKk := Lib.hid (HKn.out k hlt)
      generalize at0 en k = v at *
      by_cases hv1 : v < 0
      · have d1 : decide (v < 0) = true := decide_eq_true hv1
        clear hv1
        go_wp2_with fail
        go_roundw
        case rel => exact ⟨k + 1, by omega, by go_num, L4Y0.out⟩
        case measure => simp only [intOf]; omega
      have d1 : decide (v < 0) = false := decide_eq_false hv1
      by_cases hv2 : 1000000 < v
      · have d2 : decide (1000000 < v) = true := decide_eq_true hv2
        clear hv1 hv2
        go_wp2_with fail
        go_roundw
        case rel => exact ⟨k + 1, by omega, by go_num, L4Y0.out⟩
        case measure => simp only [intOf]; omega
      have d2 : decide (1000000 < v) = false := decide_eq_false hv2
      have Hv : Hid (0 ≤ v ∧ v ≤ 1000000) := ⟨by omega, by omega⟩
      clear hv1 hv2
      go_upto_region 13 with (fail)
      have y0 := ovr_cell hcell
      obtain ⟨k0, k1, k2, k3⟩ := HX.out Y0 (LY0.out)
      have v0 := ovr_cell k0
      have v1 := ovr_cell k1
      have v2 := ovr_cell k2
      have v3 := ovr_cell k3
      clear k0 k1 k2 k3
      refine wp_region_make_two (fun j => if j = 11 then some (WithF E1 E3 e1 e3 R' ⟨(tn : Int), v, v⟩) else if j = 15 then some (NewAt Y0 run0 35) else none) [14] (by kernel_rfl) (by kernel_rfl) (by kernel_rfl) (by kernel_rfl) (by kernel_rfl) (by intro i hi; simp at hi; subst hi; rfl) ⟨rfl, rfl⟩ (fun c a d v w h => by cases d <;> exact h) ?_
      simp only [sleepTwo_cons, sleepTwo_two]
      repeat (refine wpG_one rfl rfl rfl ?_; intro K hK; go_big_quiet_op; go_big_quiet_on)
      refine wpG_make (WithF E1 E3 e1 e3 R' ⟨(tn : Int), v, v⟩) rfl rfl (fun w' hw' _ => ?_) (fun u hu => ?_)
      · go_simp
        exact with_grow (CW.out v w' (LY0.out.trans hw'.le))
      obtain ⟨_, _, mbA, mbc, mbl, ok, rfl, hwl⟩ := hu
      have Hwl : Hid (ok = true → mbl = insM R'.ms ⟨(tn : Int), v, v⟩) := fun h => (hwl h).2.1
      clear hwl
      simp only [Act.put, List.setIfInBounds_toArray, List.set_cons_zero, List.set_cons_succ]
      repeat (refine wpG_one rfl rfl rfl ?_; intro K hK; go_big_quiet_op; go_big_quiet_on)
      refine wpG_make (NewAt Y0 run0 35) rfl rfl (fun w' hw' _ => ?_) (fun u hu => ?_)
      · go_simp
        exact new_grow hw'
      obtain ⟨_, _, mb, rfl, _, hxb⟩ := hu
      simp only [Act.put, List.setIfInBounds_toArray, List.set_cons_zero, List.set_cons_succ]
      repeat (refine wpG_one rfl rfl rfl ?_; intro K hK; go_big_quiet_op; go_big_quiet_on)
      refine wpG_nil (fun w5 hw5 hG => ?_)
      have hx5 := (Box.now hG.2).at.1
      have hwf := WithF.at (Box.now hG.1.2) Hwl.out
      intro s t hs ht
      obtain rfl := Option.some.inj hs
      obtain rfl := Option.some.inj ht
      have Hmb : Hid (Y0.heap.size ≤ mb) := hxb
      obtain ⟨RM, hRM⟩ : ∃ RM, RM = (⟨R'.ss, R'.e, mbl, R'.es⟩ : Run) := ⟨_, rfl⟩
      clear hG hs ht
      refine wp_store_row 35 _ _ rfl mb rfl _ _ hx5 (rnArr E1 mbA E3 e1 mbc e3 ⟨R'.ss, R'.e, mbl, R'.es⟩) rfl (rn_one _ _ _ _ _ _ _) rfl (by kernel_rfl) ?_
      refine ⟨hw5.set hxb _, ?_⟩
      refine wp_assign _ (.bool ok) rfl rfl ?_
      refine ⟨hw5.set hxb _, ?_⟩
      simp only [Act.put, List.setIfInBounds_toArray, List.set_cons_zero, List.set_cons_succ]
      rw [← hRM]
      have q0 : (w5.setRow mb (rnArr E1 mbA E3 e1 mbc e3 RM)).heap[mb]? = some (.cells (rnArr E1 mbA E3 e1 mbc e3 RM) 35 (0, 0)) := setRow_same hx5
      have hle : Le Y0 (w5.setRow mb (rnArr E1 mbA E3 e1 mbc e3 RM)) := below_setRow hw5.le hxb _
      have hwf2 : ok = true → noT R' tn ∧ RM = withR R' ⟨(tn : Int), v, v⟩ ∧ RdS (w5.setRow mb (rnArr E1 mbA E3 e1 mbc e3 RM)) mbA mbl := fun h => ⟨(hwf h).1, by rw [hRM, Hwl.out h]; rfl, (hwf h).2.set hx5 (by decide) _⟩
      have hml : RM.ms = mbl := by rw [hRM]
      rw [← hml] at hwf2
      have hes : RM.ss = R'.ss ∧ RM.es = R'.es := by rw [hRM]; exact ⟨rfl, rfl⟩
      generalize w5.setRow mb (rnArr E1 mbA E3 e1 mbc e3 RM) = Y1 at *
      have LY1 : Hid (Le Y0 Y1) := hle
      have L2Y1 : Hid (Le W2 Y1) := LY0.out.trans hle
      have Hrow : Hid (Y1.heap[mb]? = some (.cells (rnArr E1 mbA E3 e1 mbc e3 RM) 35 (0, 0))) := q0
      have Hwf := Lib.hid hwf2
      have HIM : Hid (ok = true → ∀ W, Le Y1 W → RunIn W E1 mbA E3 RM) := fun h W hW => by
        have h0 := HI.out W (L2Y1.out.trans hW)
        have h1 := (Hwf.out h).2.2.1
        have hlen := with_len R' ⟨(tn : Int), v, v⟩
        have h60 := Hms60.out
        exact ⟨by rw [hes.1]; exact h0.s, (h1.below hW).more hW.size, by rw [hes.2]; exact h0.e, by rw [hes.1]; exact h0.ls, by rw [(Hwf.out h).2.1, hlen]; omega, by rw [hes.2]; exact h0.le⟩
      have HXM : Hid (∀ W, Le Y1 W → W.cell? ⟨mb, 0, none⟩ = some (.slice E1 RM.ss.length e1) ∧ W.cell? ⟨mb, 1, none⟩ = some (I RM.e) ∧ W.cell? ⟨mb, 2, none⟩ = some (.slice mbA RM.ms.length mbc) ∧ W.cell? ⟨mb, 3, none⟩ = some (.slice E3 RM.es.length e3)) := fun W hW => by
        have h1 := (Below.block hW _ (Array.getElem?_eq_some_iff.1 Hrow.out).1).trans Hrow.out
        exact ⟨by rw [cell_of_row _ _ _ _ _ _ h1]; rfl, by rw [cell_of_row _ _ _ _ _ _ h1]; rfl, by rw [cell_of_row _ _ _ _ _ _ h1]; rfl, by rw [cell_of_row _ _ _ _ _ _ h1]; rfl⟩
      clear hx5 hw5 hxb q0 hle hwf hwf2 hRM hml hes Hwl v0 v1 v2 v3
      clear y0 hcell
      rcases ok with _ | _
      · go_wp2_with fail
        go_roundw
        case rel => exact ⟨k + 1, by omega, by go_num, L4Y0.out.trans LY1.out⟩
        case measure => simp only [intOf]; omega
      have hwf := Hwf.out rfl
      have hvM : VRun RM := by
        rw [hwf.2.1]
        exact with_vrun Hvr.out hwf.1 (by simp only; omega) HT.out (by have := Hms60.out; omega) ⟨Hv.out.1, Int.le_refl _, Hv.out.2⟩
      have hkk := HKk.out hwf.1
      rw [← hwf.2.1] at hkk
      have hokM : (okPuller p && okRun RM) = true := by rw [Hvk.out.1, (vRun_iff RM).2 hvM]; rfl
      obtain ⟨⟨i1, i2⟩, hcv⟩ : ∃ q, confV p RM = q := ⟨_, rfl⟩
      have CC : Hid (∀ W Q1 Q2 Q3 q1 q2 q3, RunIn W Q1 Q2 Q3 RM → RM.ms.length ≤ q2 → Calls Try.prog 27 #[.agg (ia 117 p), runV Q1 Q2 Q3 q1 q2 q3 RM] W fun e w' => e = .returned (.tuple #[I i1, I i2, I 0]) ∧ Below W.heap.size W w') := fun W Q1 Q2 Q3 q1 q2 q3 hr hc => by
        have := conflict_any Q1 Q2 Q3 q1 q2 q3 p RM W hr hc
        rw [hcv, hokM] at this
        exact this
      have Hi1 : Hid ((i1 == -1) = decide (k < 2)) := by
        show _ = _
        unfold confV at hcv
        rw [hokM, if_pos rfl] at hcv
        rcases hc : conf p RM with _ | ⟨a, b⟩
        · rw [hc] at hcv hkk
          have hk2 : k < 2 := by
            have h : decide (2 ≤ k) = false := hkk.symm
            rw [decide_eq_false_iff_not] at h
            omega
          have h1 : i1 = -1 := by injection hcv with h1 h2; exact h1.symm
          rw [h1, decide_eq_true hk2]; rfl
        · rw [hc] at hcv hkk
          have hk2 : ¬ k < 2 := by
            have h : decide (2 ≤ k) = true := hkk.symm
            rw [decide_eq_true_eq] at h
            omega
          have h1 : i1 = (a : Int) := by injection hcv with h1 h2; exact h1.symm
          rw [decide_eq_false hk2, beq_eq_false_iff_ne, h1]
          omega
      have HIM2 := Lib.hid (HIM.out rfl)
      have LM : Hid (Le Y1 Y1) := Le.refl _
      clear hwf hvM hkk hokM hcv HIM
      go_upto_region 15 with (fail)
      obtain ⟨k0, k1, k2, k3⟩ := HXM.out Y1 (LM.out)
      have v0 := ovr_cell k0
      have v1 := ovr_cell k1
      have v2 := ovr_cell k2
      have v3 := ovr_cell k3
      clear k0 k1 k2 k3
      refine wp_region_make (fun j => if j = 0 then some (fun u _ => u = .agg (ia 117 p)) else if j = 2 then some (OwnF RM) else if j = 3 then some (fun u _ => u = .tuple #[I i1, I i2, I 0]) else none) (by kernel_rfl) (by kernel_rfl) (by kernel_rfl) ?_
      refine wpG_make (fun u _ => u = .agg (ia 117 p)) rfl rfl (fun w' hw' _ => ?_) (fun u hu => ?_)
      · exact load_grow rfl rfl (HP.out w' ((L2Y1.out).trans hw'.le))
      obtain ⟨_, _, rfl⟩ := hu
      simp only [Act.put, List.setIfInBounds_toArray, List.set_cons_zero, List.set_cons_succ]
      repeat (refine wpG_one rfl rfl rfl ?_; intro K hK; go_big_quiet_op; go_big_quiet_on)
      refine wpG_make (OwnF RM) rfl rfl (fun w' hw' _ => ?_) (fun u hu => ?_)
      · go_simp
        exact own_grow (own_any _ _ _ _ _ _ RM w' (HIM2.out _ ((LM.out).trans hw'.le)))
      obtain ⟨_, _, B1, B2, B3, B4, B5, B6, rfl, _, _⟩ := hu
      simp only [Act.put, List.setIfInBounds_toArray, List.set_cons_zero, List.set_cons_succ]
      repeat (refine wpG_one rfl rfl rfl ?_; intro K hK; go_big_quiet_op; go_big_quiet_on)
      refine wpG_make (fun u _ => u = .tuple #[I i1, I i2, I 0]) rfl rfl (fun w' hw' hk => ?_) (fun u hu => ?_)
      · have hk3 := hk ⟨2, .data⟩ (by simp) rfl _ _ _ rfl rfl rfl (by simp) rfl
        obtain ⟨Q1, Q2, Q3, q1, q2, q3, he, hr, hc⟩ := hk3.now
        go_simp
        first
        | exact call_grow (CC.out _ _ _ _ _ _ _ hr hc)
        | (obtain ⟨hr, hc⟩ := runV_in he hr hc
           exact call_grow (CC.out _ _ _ _ _ _ _ hr hc))
      obtain ⟨_, _, rfl⟩ := hu
      skip
      simp only [Act.put, List.setIfInBounds_toArray, List.set_cons_zero, List.set_cons_succ]
      repeat (refine wpG_one rfl rfl rfl ?_; intro K hK; go_big_quiet_op; go_big_quiet_on)
      refine wpG_nil (fun Y2 hw5 _ => ?_)
      have L4Y2 : Hid (Le V4 Y2) := L4Y0.out.trans (LY1.out.trans hw5.le)
      clear hw5 CC v0 v1 v2 v3
      by_cases hk2 : k < 2
      · have e1 : (i1 == -1) = true := by rw [Hi1.out]; exact decide_eq_true hk2
        have e2 : decide ((k : Int) < 2) = true := decide_eq_true (by omega)
        clear hk2
        go_wp2_with fail
        go_roundw
        case rel => exact ⟨k + 1, by omega, by go_num, L4Y2.out⟩
        case measure => simp only [intOf]; omega
      · have e1 : (i1 == -1) = false := by rw [Hi1.out]; exact decide_eq_false hk2
        have e2 : decide ((k : Int) < 2) = false := decide_eq_false (by omega)
        clear hk2
        go_wp2_with fail
        go_roundw
        case rel => exact ⟨k + 1, by omega, by go_num, L4Y2.out⟩
        case measure => simp only [intOf]; omega
    · obtain rfl : k = 4 := by omega
      have hki : decide (((4 : Nat) : Int) < 4) = false := by decide
      clear HKn HEn hlt hk
      go_upto_region 18 with (fail)
      obtain ⟨rs, hrs⟩ : ∃ rs, acL p R' = rs := ⟨_, rfl⟩
      have Hrs := Lib.hid hrs
      have CA : Hid (∀ W Q1 Q2 Q3 q1 q2 q3, RunIn W Q1 Q2 Q3 R' → R'.ms.length ≤ q2 → Calls Try.prog 33 #[.agg (ia 117 p), runV Q1 Q2 Q3 q1 q2 q3 R'] W (RetL W rs 0)) := fun W Q1 Q2 Q3 q1 q2 q3 hr hc => by
        have := acceptedX_any Q1 Q2 Q3 q1 q2 q3 p R' W hr hc
        rw [Hrs.out, chE_ok Hvk.out.1 Hvk.out.2 Hcf.out] at this; exact this
      have Hrl : Hid (rs.length ≤ 1000 ∧ ∀ t : Nat, t < N → rs.any (haB t) = goodB p R' t) := by
        have h1 := (runsL (goodB p R') N).has
        have h2 := rnK_len (goodB p R') N
        have e : (rnK (goodB p R') N).1 = rs := by rw [← Hrs.out, acL, if_pos (chE_ok Hvk.out.1 Hvk.out.2 Hcf.out), HNt.out]; rfl
        rw [e] at h1 h2
        exact ⟨by have := HN1.out; omega, fun t ht => by rw [h1 t, decide_eq_true ht, Bool.true_and]⟩
      clear hrs
      obtain ⟨k0, k1, k2, k3⟩ := HX.out Y0 (LY0.out)
      have v0 := ovr_cell k0
      have v1 := ovr_cell k1
      have v2 := ovr_cell k2
      have v3 := ovr_cell k3
      clear k0 k1 k2 k3
      refine wp_region_make (fun j => if j = 0 then some (fun u _ => u = .agg (ia 117 p)) else if j = 2 then some (OwnF R') else if j = 3 then some (SlT rs 0) else none) (by kernel_rfl) (by kernel_rfl) (by kernel_rfl) ?_
      refine wpG_make (fun u _ => u = .agg (ia 117 p)) rfl rfl (fun w' hw' _ => ?_) (fun u hu => ?_)
      · exact load_grow rfl rfl (HP.out w' ((LY0.out).trans hw'.le))
      obtain ⟨_, _, rfl⟩ := hu
      simp only [Act.put, List.setIfInBounds_toArray, List.set_cons_zero, List.set_cons_succ]
      repeat (refine wpG_one rfl rfl rfl ?_; intro K hK; go_big_quiet_op; go_big_quiet_on)
      refine wpG_make (OwnF R') rfl rfl (fun w' hw' _ => ?_) (fun u hu => ?_)
      · go_simp
        exact own_grow (own_any _ _ _ _ _ _ R' w' (HI.out _ ((LY0.out).trans hw'.le)))
      obtain ⟨_, _, B1, B2, B3, B4, B5, B6, rfl, _, _⟩ := hu
      simp only [Act.put, List.setIfInBounds_toArray, List.set_cons_zero, List.set_cons_succ]
      repeat (refine wpG_one rfl rfl rfl ?_; intro K hK; go_big_quiet_op; go_big_quiet_on)
      refine wpG_make (SlT rs 0) rfl rfl (fun w' hw' hk => ?_) (fun u hu => ?_)
      · have hk3 := hk ⟨2, .data⟩ (by simp) rfl _ _ _ rfl rfl rfl (by simp) rfl
        obtain ⟨Q1, Q2, Q3, q1, q2, q3, he, hr, hc⟩ := hk3.now
        go_simp
        first
        | exact retL_grow (CA.out _ _ _ _ _ _ _ hr hc)
        | (obtain ⟨hr, hc⟩ := runV_in he hr hc
           exact retL_grow (CA.out _ _ _ _ _ _ _ hr hc))
      obtain ⟨_, _, Ar, nr, cr1, rfl, hna, hrd⟩ := hu
      clear hna hrd
      simp only [Act.put, List.setIfInBounds_toArray, List.set_cons_zero, List.set_cons_succ]
      repeat (refine wpG_one rfl rfl rfl ?_; intro K hK; go_big_quiet_op; go_big_quiet_on)
      refine wpG_nil (fun Z1 hw5 hG => ?_)
      have LZ1 : Hid (Le W2 Z1) := LY0.out.trans hw5.le
      have LV4Z1 : Hid (Le V4 Z1) := L4Y0.out.trans hw5.le
      have hsl := hG.2.now.at
      have HA : Hid (∀ W, Le Z1 W → Rd W W.heap.size 2 Ar nr (rR rs)) := fun W hW => (hsl.2.below hW).more hW.size
      obtain rfl : nr = rs.length := hsl.1
      clear hw5 hG hsl CA v0 v1 v2 v3
      obtain ⟨cv, hcv⟩ : ∃ cv, crs p x tn = cv := ⟨_, rfl⟩
      have Hcv := Lib.hid hcv
      have hgl := HDc.out Z1 LZ1.out tn (by have := HT.out; have := HN.out; omega)
      rw [hcv] at hgl
      have y0 := ovr_cell hgl
      have i1 : (0 : Int) ≤ (tn : Int) := by omega
      have i2 : (tn : Int) < ((N + 1 : Nat) : Int) := by have := HT.out; have := HN.out; omega
      have i3 : decide ((tn : Int) < ((N + 1 : Nat) : Int)) = true := decide_eq_true i2
      have i4 : decide (tn < N + 1) = true := decide_eq_true (by omega)
      have i5 : decide (0 ≤ (tn : Int)) = true := decide_eq_true i1
      clear hcv hgl
      go_upto_region 21 with (fail)
      obtain ⟨k0, k1, k2, k3⟩ := HX.out Z1 (LZ1.out)
      have v0 := ovr_cell k0
      have v1 := ovr_cell k1
      have v2 := ovr_cell k2
      have v3 := ovr_cell k3
      clear k0 k1 k2 k3
      refine wp_region_make_two (fun j => if j = 11 then some (WithF E1 E3 e1 e3 R' ⟨(tn : Int), cv, cv⟩) else if j = 15 then some (NewAt Z1 run0 35) else none) [14] (by kernel_rfl) (by kernel_rfl) (by kernel_rfl) (by kernel_rfl) (by kernel_rfl) (by intro i hi; simp at hi; subst hi; rfl) ⟨rfl, rfl⟩ (fun c a d v w h => by cases d <;> exact h) ?_
      simp only [sleepTwo_cons, sleepTwo_two]
      repeat (refine wpG_one rfl rfl rfl ?_; intro K hK; go_big_quiet_op; go_big_quiet_on)
      refine wpG_make (WithF E1 E3 e1 e3 R' ⟨(tn : Int), cv, cv⟩) rfl rfl (fun w' hw' _ => ?_) (fun u hu => ?_)
      · go_simp
        exact with_grow (CW.out cv w' (LZ1.out.trans hw'.le))
      obtain ⟨_, _, nbA, nbc, nbl, ok, rfl, hwl⟩ := hu
      have Hwl : Hid (ok = true → nbl = insM R'.ms ⟨(tn : Int), cv, cv⟩) := fun h => (hwl h).2.1
      clear hwl
      simp only [Act.put, List.setIfInBounds_toArray, List.set_cons_zero, List.set_cons_succ]
      repeat (refine wpG_one rfl rfl rfl ?_; intro K hK; go_big_quiet_op; go_big_quiet_on)
      refine wpG_make (NewAt Z1 run0 35) rfl rfl (fun w' hw' _ => ?_) (fun u hu => ?_)
      · go_simp
        exact new_grow hw'
      obtain ⟨_, _, nb, rfl, _, hxb⟩ := hu
      simp only [Act.put, List.setIfInBounds_toArray, List.set_cons_zero, List.set_cons_succ]
      repeat (refine wpG_one rfl rfl rfl ?_; intro K hK; go_big_quiet_op; go_big_quiet_on)
      refine wpG_nil (fun w5 hw5 hG => ?_)
      have hx5 := (Box.now hG.2).at.1
      have hwf := WithF.at (Box.now hG.1.2) Hwl.out
      intro s t hs ht
      obtain rfl := Option.some.inj hs
      obtain rfl := Option.some.inj ht
      have Hnb : Hid (Z1.heap.size ≤ nb) := hxb
      obtain ⟨RM, hRM⟩ : ∃ RM, RM = (⟨R'.ss, R'.e, nbl, R'.es⟩ : Run) := ⟨_, rfl⟩
      clear hG hs ht
      refine wp_store_row 35 _ _ rfl nb rfl _ _ hx5 (rnArr E1 nbA E3 e1 nbc e3 ⟨R'.ss, R'.e, nbl, R'.es⟩) rfl (rn_one _ _ _ _ _ _ _) rfl (by kernel_rfl) ?_
      refine ⟨hw5.set hxb _, ?_⟩
      refine wp_assign _ (.bool ok) rfl rfl ?_
      refine ⟨hw5.set hxb _, ?_⟩
      simp only [Act.put, List.setIfInBounds_toArray, List.set_cons_zero, List.set_cons_succ]
      rw [← hRM]
      have q0 : (w5.setRow nb (rnArr E1 nbA E3 e1 nbc e3 RM)).heap[nb]? = some (.cells (rnArr E1 nbA E3 e1 nbc e3 RM) 35 (0, 0)) := setRow_same hx5
      have hle : Le Z1 (w5.setRow nb (rnArr E1 nbA E3 e1 nbc e3 RM)) := below_setRow hw5.le hxb _
      have hwf2 : ok = true → noT R' tn ∧ RM = withR R' ⟨(tn : Int), cv, cv⟩ ∧ RdS (w5.setRow nb (rnArr E1 nbA E3 e1 nbc e3 RM)) nbA nbl := fun h => ⟨(hwf h).1, by rw [hRM, Hwl.out h]; rfl, (hwf h).2.set hx5 (by decide) _⟩
      have hml : RM.ms = nbl := by rw [hRM]
      rw [← hml] at hwf2
      have hes : RM.ss = R'.ss ∧ RM.es = R'.es := by rw [hRM]; exact ⟨rfl, rfl⟩
      generalize w5.setRow nb (rnArr E1 nbA E3 e1 nbc e3 RM) = Z2 at *
      have LZ2 : Hid (Le Z1 Z2) := hle
      have L2Z2 : Hid (Le W2 Z2) := LZ1.out.trans hle
      have Hrow : Hid (Z2.heap[nb]? = some (.cells (rnArr E1 nbA E3 e1 nbc e3 RM) 35 (0, 0))) := q0
      have Hwf := Lib.hid hwf2
      have HIM : Hid (ok = true → ∀ W, Le Z2 W → RunIn W E1 nbA E3 RM) := fun h W hW => by
        have h0 := HI.out W (L2Z2.out.trans hW)
        have h1 := (Hwf.out h).2.2.1
        have hlen := with_len R' ⟨(tn : Int), cv, cv⟩
        have h60 := Hms60.out
        exact ⟨by rw [hes.1]; exact h0.s, (h1.below hW).more hW.size, by rw [hes.2]; exact h0.e, by rw [hes.1]; exact h0.ls, by rw [(Hwf.out h).2.1, hlen]; omega, by rw [hes.2]; exact h0.le⟩
      have HXM : Hid (∀ W, Le Z2 W → W.cell? ⟨nb, 0, none⟩ = some (.slice E1 RM.ss.length e1) ∧ W.cell? ⟨nb, 1, none⟩ = some (I RM.e) ∧ W.cell? ⟨nb, 2, none⟩ = some (.slice nbA RM.ms.length nbc) ∧ W.cell? ⟨nb, 3, none⟩ = some (.slice E3 RM.es.length e3)) := fun W hW => by
        have h1 := (Below.block hW _ (Array.getElem?_eq_some_iff.1 Hrow.out).1).trans Hrow.out
        exact ⟨by rw [cell_of_row _ _ _ _ _ _ h1]; rfl, by rw [cell_of_row _ _ _ _ _ _ h1]; rfl, by rw [cell_of_row _ _ _ _ _ _ h1]; rfl, by rw [cell_of_row _ _ _ _ _ _ h1]; rfl⟩
      clear hx5 hw5 hxb q0 hle hwf hwf2 hRM hml hes Hwl v0 v1 v2 v3
      clear y0 i1 i2 i3 i4 i5
      go_upto_if 151 with (fail)
      go_cut [] from 152 to 152 (fun wx => ∃ M2 m2 RX, ((noT R' tn ∧ RX = withR R' ⟨(tn : Int), cv, cv⟩) ∨ RX = R') ∧ wx.heap[nb]? = some (.cells (rnArr E1 M2 E3 e1 m2 e3 RX) 35 (0, 0)) ∧ RunIn wx E1 M2 E3 RX ∧ Le Z1 wx)
      case first =>
        rcases ok with _ | _
        · obtain ⟨k0, k1, k2, k3⟩ := HX.out Z2 L2Z2.out
          go_wp2_with (refine wpList_store_row rfl 35 _ _ rfl nb rfl _ _ Hrow.out (rnArr E1 E2 E3 e1 e2 e3 R') rfl (rn_one _ _ _ _ _ _ _) rfl (by kernel_rfl) ?_)
          have hle : Le Z1 (Z2.setRow nb (rnArr E1 E2 E3 e1 e2 e3 R')) := below_setRow LZ2.out Hnb.out _
          have Hle := Lib.hid hle
          have Hrw : Hid ((Z2.setRow nb (rnArr E1 E2 E3 e1 e2 e3 R')).heap[nb]? = some (.cells (rnArr E1 E2 E3 e1 e2 e3 R') 35 (0, 0))) := setRow_same Hrow.out
          clear hle k0 k1 k2 k3
          go_meet
          case rel => exact ⟨E2, e2, R', .inr rfl, Hrw.out, HI.out _ (LZ1.out.trans Hle.out), Hle.out⟩
        · have hA := Lib.hid (Hwf.out rfl)
          have hB := Lib.hid (HIM.out rfl _ (Le.refl _))
          clear Hwf HIM
          go_wp2_with fail
          go_meet
          case rel => exact ⟨nbA, nbc, RM, .inl ⟨hA.out.1, hA.out.2.1⟩, Hrow.out, hB.out, LZ2.out⟩
      obtain ⟨M2, m2, RX, hRX, hrX, hiX, hleX⟩ := hcut
      have LX : Hid (Le Z1 wc) := hleX
      have LX2 : Hid (Le W2 wc) := LZ1.out.trans hleX
      have HIX : Hid (∀ W, Le wc W → RunIn W E1 M2 E3 RX) := fun W hW => hiX.below hW
      have HXX : Hid (∀ W, Le wc W → W.cell? ⟨nb, 0, none⟩ = some (.slice E1 RX.ss.length e1) ∧ W.cell? ⟨nb, 1, none⟩ = some (I RX.e) ∧ W.cell? ⟨nb, 2, none⟩ = some (.slice M2 RX.ms.length m2) ∧ W.cell? ⟨nb, 3, none⟩ = some (.slice E3 RX.es.length e3)) := fun W hW => by
        have h1 := (Below.block hW _ (Array.getElem?_eq_some_iff.1 hrX).1).trans hrX
        exact ⟨by rw [cell_of_row _ _ _ _ _ _ h1]; rfl, by rw [cell_of_row _ _ _ _ _ _ h1]; rfl, by rw [cell_of_row _ _ _ _ _ _ h1]; rfl, by rw [cell_of_row _ _ _ _ _ _ h1]; rfl⟩
      have HRX : Hid (VRun RX ∧ TrueC p RX (crs p x) ∧ RX.e = R'.e ∧ 0 < RX.ms.length ∧ ∀ j, j < R'.ms.length → ∃ i, i < RX.ms.length ∧ at0 RX.ms i = at0 R'.ms j) := by
        rcases hRX with ⟨hn, h⟩ | h
        · rw [h, ← Hcv.out]
          exact ⟨with_vrun Hvr.out hn (by simp only; omega) HT.out (by have := Hms60.out; omega) ⟨(crs_bd p HC.out.f tn).1, Int.le_refl _, (crs_bd p HC.out.f tn).2⟩, with_true Hvr.out Htc.out hn, rfl, by rw [with_len]; omega, with_sub Hvr.out hn⟩
        · rw [h]
          exact ⟨Hvr.out, Htc.out, rfl, Hpos.out, fun j hj => ⟨j, hj, rfl⟩⟩
      clear hRX hrX hiX hleX Hwf HIM HXM Hrow Hnb
      go_upto_region 25 with (first | (refine wpList_load_ia rfl 30 _ rfl w.heap.size 0 rfl 117 p _ (HP.out wc LX2.out) Try.underlying30 rfl (by kernel_rfl) ?_) | (refine wpList_store_new rfl 30 _ _ rfl _ _ wc.heap.size rfl rfl (ia 117 p) rfl ia_one (by rw [ia_size]; kernel_rfl) (by kernel_rfl) ?_))
      obtain ⟨Q0, hQ0⟩ : ∃ Q, Q = wc.alloc (.cells (ia 117 p) 30) := ⟨_, rfl⟩
      rw [← hQ0]
      have r0 : Q0.heap[wc.heap.size]? = some (.cells (ia 117 p) 30 (0, 0)) := by rw [hQ0]; exact heap_last _ _ _ rfl
      have hl0 : Le wc Q0 := by rw [hQ0]; exact (Below.refl _ _).alloc (Nat.le_refl _) _
      have Hl0 := Lib.hid hl0
      have c0 : Q0.cell? ⟨wc.heap.size, 110, none⟩ = some (I (p 110)) := by rw [cell_of_row _ _ _ _ _ _ r0]; exact ia_get (by omega)
      have c1 : Q0.cell? ⟨wc.heap.size, 111, none⟩ = some (I (p 111)) := by rw [cell_of_row _ _ _ _ _ _ r0]; exact ia_get (by omega)
      have f0 : ∀ k, Q0.frozen? ⟨wc.heap.size, k, none⟩ = false := fun k => by unfold World.frozen?; rw [r0]; rfl
      have f1 := f0 110
      have f2 := f0 111
      have R0 := Lib.hid r0
      clear hQ0 hl0 f0 r0
      generalize hqb : wc.heap.size = qb at *
      have Hqb := Lib.hid hqb
      clear hqb
      go_upto_region 26 with (fail)
      rw [setCell_eq_setRow Q0 qb 110 (ia 117 p) 30 (0, 0) _ R0.out, ia_set, setCell_eq_setRow _ qb 111 _ 30 (0, 0) _ (setRow_same R0.out), ia_set, qv_00]
      have r1 : ((Q0.setRow qb (ia 117 fun i => if i = 110 then 0 else p i)).setRow qb (ia 117 (qv p 0 0))).heap[qb]? = some (.cells (ia 117 (qv p 0 0)) 30 (0, 0)) := setRow_same (setRow_same R0.out)
      have hl1 : Le wc ((Q0.setRow qb (ia 117 fun i => if i = 110 then 0 else p i)).setRow qb (ia 117 (qv p 0 0))) := below_setRow (below_setRow Hl0.out (by rw [Hqb.out]; exact Nat.le_refl _) _) (by rw [Hqb.out]; exact Nat.le_refl _) _
      generalize (Q0.setRow qb (ia 117 fun i => if i = 110 then 0 else p i)).setRow qb (ia 117 (qv p 0 0)) = Q1 at *
      have R1 := Lib.hid r1
      have HL1 := Lib.hid hl1
      clear c0 c1 f1 f2 r1 hl1 R0 Hl0
      clear Q0
      obtain ⟨cr, hcr⟩ : ∃ cr : Nat → Int, crs p x = cr := ⟨_, rfl⟩
      have HcrB : Hid (∀ j, 0 ≤ cr j ∧ cr j ≤ 1000000) := fun j => by rw [← hcr]; exact crs_bd p HC.out.f j
      have Hcr := Lib.hid hcr
      have HDcr : Hid (∀ W, Le W2 W → ∀ j, j < N + 1 → W.cell? ⟨bD, oD + j, none⟩ = some (I (cr j))) := fun W hW j hj => by rw [← hcr]; exact HDc.out W hW j hj
      clear hcr
      go_wp2_with fail
      go_loopw [22] (fun i wr => ∃ j : Nat, j ≤ N ∧ i = .int .i64 ((j + 1 : Nat) : Int) ∧ wr.heap[qb]? = some (.cells (ia 117 (qv p (stK (upS cr) (j + 1)) (stK (dnS cr) (j + 1)))) 30 (0, 0)) ∧ Le wc wr) (fun i _ => N + 1 - (intOf i).toNat)
      case atStart => exact ⟨0, by omega, rfl, R1.out, HL1.out⟩
      case round =>
        rename World => XW
        obtain ⟨j, hj, rfl, hrow, hbw⟩ := hrel
        have LXX : Hid (Le wc XW) := hbw
        have Hrow := Lib.hid hrow
        clear hbw hrow
        rw [show ((j + 1 : Nat) : Int) = (j : Int) + 1 from rfl]
        by_cases hlt : j < N
        · have h200 := HN1.out.2
          have n1 : decide ((j : Int) + 1 < ((N + 1 : Nat) : Int)) = true := decide_eq_true (by omega)
          have n7 : IntKind.i64.wrap (((j : Int) + 1) - 1) = (j : Int) := by rw [show ((j : Int) + 1) - 1 = (j : Int) by omega]; exact IntWalk.i64_in _ (by omega)
          have n8 : (0 : Int) ≤ (j : Int) := by omega
          have n9 : (j : Int) < ((N + 1 : Nat) : Int) := by omega
          have nB : (j : Int) + 1 < ((N + 1 : Nat) : Int) := by omega
          have nC : ((j : Int) + 1).toNat = j + 1 := by omega
          have nD : (0 : Int) ≤ (j : Int) + 1 := by omega
          have g1 := HDcr.out XW (LX2.out.trans LXX.out) j (by omega)
          have g2 := HDcr.out XW (LX2.out.trans LXX.out) (j + 1) (by omega)
          have hb1 := HcrB.out j
          have hb2 := HcrB.out (j + 1)
          have Hu : Hid (stK (upS cr) (j + 2) = max (stK (upS cr) (j + 1)) (cr (j + 1) - cr j)) := rfl
          have Hd : Hid (stK (dnS cr) (j + 2) = max (stK (dnS cr) (j + 1)) (cr j - cr (j + 1))) := rfl
          generalize cr j = ca at *
          generalize cr (j + 1) = cb at *
          generalize stK (upS cr) (j + 1) = gg at *
          generalize stK (dnS cr) (j + 1) = ss at *
          have w1 : IntKind.i64.wrap (cb - ca) = cb - ca := IntWalk.i64_in _ (by omega)
          have w2 : IntKind.i64.wrap (ca - cb) = ca - cb := IntWalk.i64_in _ (by omega)
          have e0 : XW.cell? ⟨qb, 110, none⟩ = some (I gg) := by rw [cell_of_row _ _ _ _ _ _ Hrow.out]; exact ia_get (by omega)
          have e1 : XW.cell? ⟨qb, 111, none⟩ = some (I ss) := by rw [cell_of_row _ _ _ _ _ _ Hrow.out]; exact ia_get (by omega)
          have g' : ∃ g', max gg (cb - ca) = g' := ⟨_, rfl⟩
          obtain ⟨g', hg'⟩ := g'
          obtain ⟨s', hs'⟩ : ∃ s', max ss (ca - cb) = s' := ⟨_, rfl⟩
          have Hg' := Lib.hid hg'
          have Hs' := Lib.hid hs'
          rw [hg'] at Hu
          rw [hs'] at Hd
          have hbq : bD ≠ qb := fun e => by
            have h1 := block_lt_of_cell (HDcr.out W2 (Le.refl _) 0 (by omega))
            have h2 := Below.size LX2.out
            rw [Hqb.out] at h2
            simp only at h1
            omega
          have y0 := ql_cell (g := g') (s := s') hbq g1
          have y1 := ql_cell (g := g') (s := s') hbq g2
          clear g1 g2 e0 e1 hb1 hb2 hg' hs' hbq
          go_upto_region 29 with (fail)
          refine Pr.wp_region_pre (QL qb g' s') (fun j => if j = 1 then some (ZF gg g') else if j = 12 then some (fun u _ => u = I g') else if j = 14 then some (ZF ss s') else if j = 25 then some (fun u _ => u = I s') else if j = 27 then some (QC qb 110 g') else if j = 29 then some (QC qb 111 s') else none) (ql_drew _ _ _ _) (by kernel_rfl) (by kernel_rfl) (by kernel_rfl) ?_
          repeat (refine Pr.wpG_one rfl rfl rfl ?_; intro K hK; go_big_quiet_op; go_big_quiet_on)
          refine Pr.wpG_make (ZF gg g') rfl rfl (fun w' hw' _ => ?_) (fun u hu => ?_)
          · obtain ⟨cs, c1, c2, ⟨z, c3, c4⟩, _, _⟩ := ql_at Hrow.out hw'.le
            have x0 : w'.cell? ⟨qb, 110, none⟩ = some (I z) := by rw [cell_of_row _ _ _ _ _ _ c1]; exact c3
            unfold Pr.grows
            go_simp
            exact ⟨(QL _ _ _).refl _, fun _ _ => ⟨z, rfl, c4⟩⟩
          obtain ⟨_, _, z1, rfl, hz1⟩ := hu
          simp only [Act.put, List.setIfInBounds_toArray, List.set_cons_zero, List.set_cons_succ]
          repeat (refine Pr.wpG_one rfl rfl rfl ?_; intro K hK; go_big_quiet_op; go_big_quiet_on)
          refine Pr.wpG_make (fun u _ => u = I g') rfl rfl (fun w' hw' _ => ?_) (fun u hu => ?_)
          · unfold Pr.grows
            go_simp
            rw [show (if z1 < cb - ca then cb - ca else z1) = g' by have := Hg'.out; split <;> omega]
            exact ⟨(QL _ _ _).refl _, fun _ _ => rfl⟩
          obtain ⟨_, _, rfl⟩ := hu
          simp only [Act.put, List.setIfInBounds_toArray, List.set_cons_zero, List.set_cons_succ]
          repeat (refine Pr.wpG_one rfl rfl rfl ?_; intro K hK; go_big_quiet_op; go_big_quiet_on)
          refine Pr.wpG_make (ZF ss s') rfl rfl (fun w' hw' _ => ?_) (fun u hu => ?_)
          · obtain ⟨cs, c1, c2, _, ⟨z, c3, c4⟩, _⟩ := ql_at Hrow.out hw'.le
            have x0 : w'.cell? ⟨qb, 111, none⟩ = some (I z) := by rw [cell_of_row _ _ _ _ _ _ c1]; exact c3
            unfold Pr.grows
            go_simp
            exact ⟨(QL _ _ _).refl _, fun _ _ => ⟨z, rfl, c4⟩⟩
          obtain ⟨_, _, z2, rfl, hz2⟩ := hu
          simp only [Act.put, List.setIfInBounds_toArray, List.set_cons_zero, List.set_cons_succ]
          repeat (refine Pr.wpG_one rfl rfl rfl ?_; intro K hK; go_big_quiet_op; go_big_quiet_on)
          refine Pr.wpG_make (fun u _ => u = I s') rfl rfl (fun w' hw' _ => ?_) (fun u hu => ?_)
          · unfold Pr.grows
            go_simp
            rw [show (if z2 < ca - cb then ca - cb else z2) = s' by have := Hs'.out; split <;> omega]
            exact ⟨(QL _ _ _).refl _, fun _ _ => rfl⟩
          obtain ⟨_, _, rfl⟩ := hu
          simp only [Act.put, List.setIfInBounds_toArray, List.set_cons_zero, List.set_cons_succ]
          repeat (refine Pr.wpG_one rfl rfl rfl ?_; intro K hK; go_big_quiet_op; go_big_quiet_on)
          refine Pr.wpG_make (QC qb 110 g') rfl rfl (fun w' hw' _ => ?_) (fun u hu => ?_)
          · obtain ⟨cs, c1, c2, _, _, _⟩ := ql_at Hrow.out hw'.le
            exact ql_store 3 _ _ rfl rfl rfl cs _ c1 (.inl ⟨rfl, rfl⟩) (by omega) (by kernel_rfl)
          obtain ⟨_, _, _⟩ := hu
          simp only [Act.put]
          repeat (refine Pr.wpG_one rfl rfl rfl ?_; intro K hK; go_big_quiet_op; go_big_quiet_on)
          refine Pr.wpG_make (QC qb 111 s') rfl rfl (fun w' hw' _ => ?_) (fun u hu => ?_)
          · obtain ⟨cs, c1, c2, _, _, _⟩ := ql_at Hrow.out hw'.le
            exact ql_store 3 _ _ rfl rfl rfl cs _ c1 (.inr ⟨rfl, rfl⟩) (by omega) (by kernel_rfl)
          obtain ⟨_, _, _⟩ := hu
          simp only [Act.put]
          refine Pr.wpG_nil (fun XV hw5 hG => ?_)
          have hend := ql_end Hrow.out hw5.le (Pr.Box.now hG.1.2) (Pr.Box.now hG.2)
          have hle : Le wc XV := by
            have h1 : QLe qb g' s' XW XV := hw5.le
            have h2 := Below.size LXX.out
            refine Below.trans LXX.out ⟨h1.os, h1.tape, h1.output, h1.size, fun k hk => h1.block k (by rw [Hqb.out] at h2 hk; omega) (by rw [Hqb.out] at hk; omega)⟩
          have Hend := Lib.hid hend
          have Hle := Lib.hid hle
          clear hend hle hw5 hG y0 y1 hz1 hz2
          go_wp2_with fail
          go_roundw
          case rel => exact ⟨j + 1, by omega, by go_num, by rw [Hu.out, Hd.out]; exact Hend.out, Hle.out⟩
          case measure => simp only [intOf]; omega
        · obtain rfl : j = N := by omega
          have n1 : decide ((j : Int) + 1 < ((j + 1 : Nat) : Int)) = false := decide_eq_false (by omega)
          obtain ⟨G, hG⟩ : ∃ G, stK (upS cr) (j + 1) = G := ⟨_, rfl⟩
          obtain ⟨D, hD⟩ : ∃ D, stK (dnS cr) (j + 1) = D := ⟨_, rfl⟩
          have hGD : (0 ≤ G ∧ G ≤ p 110) ∧ (0 ≤ D ∧ D ≤ p 111) := by
            have hst := fun t => crs_step (p := p) (x := x) HC.out.f Hvp.out.grow.1 Hvp.out.shrink.1 t
            rw [← hG, ← hD, ← Hcr.out]
            refine ⟨⟨stK_ge _ _, stK_le Hvp.out.grow.1 (fun t => ?_) _⟩, stK_ge _ _, stK_le Hvp.out.shrink.1 (fun t => ?_) _⟩
            · have := hst t; unfold upS; omega
            · have := hst t; unfold dnS; omega
          have hrow := Hrow.out
          rw [hG, hD] at hrow
          obtain ⟨q, hq⟩ : ∃ q, qv p G D = q := ⟨_, rfl⟩
          rw [hq] at hrow
          have hokq : okPuller q = true := by
            have h1 := Hvp.out.grow
            have h2 := Hvp.out.shrink
            rw [← hq]; exact ok_qv Hvk.out.1 ⟨hGD.1.1, by omega⟩ ⟨hGD.2.1, by omega⟩
          have hqe : q 110 = G ∧ q 111 = D ∧ q 112 = p 112 ∧ q 113 = p 113 := by
            rw [← hq]
            exact ⟨rfl, rfl, qv_hi (by omega), qv_hi (by omega)⟩
          have hT1 : TrueC q R' (fun t => crs p x (min t j)) := by
            have := slow_true Hvr.out Htc.out HN.out
            rw [Hcr.out, hG, hD, hq] at this
            rw [Hcr.out]
            exact this
          have hT2 : TrueC q RX (fun t => crs p x (min t j)) := by
            have := slow_true HRX.out.1 HRX.out.2.1 (by rw [HRX.out.2.2.1]; exact HN.out)
            rw [Hcr.out, hG, hD, hq] at this
            rw [Hcr.out]
            exact this
          have hg1 : Tgt p q R' R' := ⟨Hvr.out, Hvr.out, by omega, by omega, by omega, by omega, rfl, fun k hk => ⟨k, hk, rfl⟩⟩
          have hg2 : Tgt p q R' RX := ⟨Hvr.out, HRX.out.1, by omega, by omega, by omega, by omega, HRX.out.2.2.1, HRX.out.2.2.2.2⟩
          have hg3 : Tgt p p R' RX := ⟨Hvr.out, HRX.out.1, Int.le_refl _, Int.le_refl _, Hvp.out.grow.1, Hvp.out.shrink.1, HRX.out.2.2.1, HRX.out.2.2.2.2⟩
          have hokX : okRun RX = true := (vRun_iff RX).2 HRX.out.1
          have hcX : conf p RX = none := conf_true HRX.out.2.1 HRX.out.1
          have hcq : conf q R' = none := conf_true hT1 Hvr.out
          have hcqX : conf q RX = none := conf_true hT2 HRX.out.1
          have HXN : Hid (RX.e = j) := by show _ = _; rw [HRX.out.2.2.1, HN.out]
          have HQc : Hid (∀ W, Le XW W → ∀ k, k < 117 → W.cell? ⟨qb, 0 + k, none⟩ = some (I (q k))) := fun W hW k hk => by
            rw [Nat.zero_add, cell_of_row _ _ _ _ _ _ ((Below.block hW _ (Array.getElem?_eq_some_iff.1 hrow).1).trans hrow)]; exact ia_get hk
          obtain ⟨la, hla⟩ : ∃ la, acL p RX = la := ⟨_, rfl⟩
          obtain ⟨lq, hlq⟩ : ∃ lq, acL q R' = lq := ⟨_, rfl⟩
          have Hal : Hid (la.length ≤ 1000 ∧ ∀ t : Nat, t < j → goodB p R' t = true → la.any (haB t) = true) := by
            have h1 := (runsL (goodB p RX) j).has
            have h2 := rnK_len (goodB p RX) j
            have e : (rnK (goodB p RX) j).1 = la := by rw [← hla, acL, if_pos (chE_ok Hvk.out.1 hokX hcX), HXN.out]; rfl
            rw [e] at h1 h2
            exact ⟨by have := HN1.out; omega, fun t ht hb => by rw [h1 t, decide_eq_true ht, Bool.true_and]; exact good_more hg3 HRX.out.2.1 ⟨rfl, rfl⟩ (by rw [HN.out]; omega) hb⟩
          have Hql : Hid (lq.length ≤ 1000 ∧ ∀ t : Nat, t < j → goodB p R' t = true → lq.any (haB t) = true) := by
            have h1 := (runsL (goodB q R') j).has
            have h2 := rnK_len (goodB q R') j
            have e : (rnK (goodB q R') j).1 = lq := by rw [← hlq, acL, if_pos (chE_ok hokq Hvk.out.2 hcq), HNt.out]; rfl
            rw [e] at h1 h2
            exact ⟨by have := HN1.out; omega, fun t ht hb => by rw [h1 t, decide_eq_true ht, Bool.true_and]; exact good_more hg1 hT1 ⟨hqe.2.2.1, hqe.2.2.2⟩ (by rw [HN.out]; omega) hb⟩
          have CA1 : Hid (∀ W Q1 Q2 Q3 q1 q2 q3, RunIn W Q1 Q2 Q3 RX → RX.ms.length ≤ q2 → Calls Try.prog 33 #[.agg (ia 117 p), runV Q1 Q2 Q3 q1 q2 q3 RX] W (RetL W la 0)) := fun W Q1 Q2 Q3 q1 q2 q3 hr hc => by
            have := acceptedX_any Q1 Q2 Q3 q1 q2 q3 p RX W hr hc
            rw [hla, chE_ok Hvk.out.1 hokX hcX] at this; exact this
          have CA2 : Hid (∀ W Q1 Q2 Q3 q1 q2 q3, RunIn W Q1 Q2 Q3 R' → R'.ms.length ≤ q2 → Calls Try.prog 33 #[.agg (ia 117 q), runV Q1 Q2 Q3 q1 q2 q3 R'] W (RetL W lq 0)) := fun W Q1 Q2 Q3 q1 q2 q3 hr hc => by
            have := acceptedX_any Q1 Q2 Q3 q1 q2 q3 q R' W hr hc
            rw [hlq, chE_ok hokq Hvk.out.2 hcq] at this; exact this
          have CD : Hid (∀ W Q1 Q2 Q3 q1 q2 q3, RunIn W Q1 Q2 Q3 RX → RX.ms.length ≤ q2 → Calls Try.prog 28 #[.agg (ia 117 q), runV Q1 Q2 Q3 q1 q2 q3 RX, I tn] W fun e w' => e = .returned (.tuple #[.agg #[I (atK q RX tn).lo, I (atK q RX tn).hi], I 0]) ∧ Below W.heap.size W w') := fun W Q1 Q2 Q3 q1 q2 q3 hr hc => by
            have := diameter_any Q1 Q2 Q3 q1 q2 q3 q RX (tn : Int) W hr hc
            have ht := tellE_ok hokq hokX hcqX HRX.out.2.2.2.1 (t := (tn : Int)) (last := RX.e) ⟨by omega, by rw [HRX.out.2.2.1]; exact HT.out⟩
            rw [tellR_ok ht, ht, Int.toNat_natCast] at this
            exact this
          have HY := Lib.hid (Hat.out q RX _ hg2 hT2)
          clear hG hD hGD hrow hq hokq hqe hT1 hT2 hg1 hg2 hg3 hokX hcX hcq hcqX hla hlq hj hlt Hat
          generalize (atK q RX tn).lo = U0 at *
          generalize (atK q RX tn).hi = U1 at *
          have LXW2 : Hid (Le W2 XW) := LX2.out.trans LXX.out
          have LV3 : Hid (Le W3 XW) := L3V4.out.trans (LV4Z1.out.trans (LX.out.trans LXX.out))
          go_upto_region 30 with (fail)
          obtain ⟨k0, k1, k2, k3⟩ := HXX.out XW (LXX.out)
          have v0 := ovr_cell k0
          have v1 := ovr_cell k1
          have v2 := ovr_cell k2
          have v3 := ovr_cell k3
          clear k0 k1 k2 k3
          refine wp_region_make (fun j => if j = 0 then some (fun u _ => u = .agg (ia 117 p)) else if j = 2 then some (OwnF RX) else if j = 3 then some (SlT la 0) else none) (by kernel_rfl) (by kernel_rfl) (by kernel_rfl) ?_
          refine wpG_make (fun u _ => u = .agg (ia 117 p)) rfl rfl (fun w' hw' _ => ?_) (fun u hu => ?_)
          · exact load_grow rfl rfl (HP.out w' ((LXW2.out).trans hw'.le))
          obtain ⟨_, _, rfl⟩ := hu
          simp only [Act.put, List.setIfInBounds_toArray, List.set_cons_zero, List.set_cons_succ]
          repeat (refine wpG_one rfl rfl rfl ?_; intro K hK; go_big_quiet_op; go_big_quiet_on)
          refine wpG_make (OwnF RX) rfl rfl (fun w' hw' _ => ?_) (fun u hu => ?_)
          · go_simp
            exact own_grow (own_any _ _ _ _ _ _ RX w' (HIX.out _ ((LXX.out).trans hw'.le)))
          obtain ⟨_, _, B1, B2, B3, B4, B5, B6, rfl, _, _⟩ := hu
          simp only [Act.put, List.setIfInBounds_toArray, List.set_cons_zero, List.set_cons_succ]
          repeat (refine wpG_one rfl rfl rfl ?_; intro K hK; go_big_quiet_op; go_big_quiet_on)
          refine wpG_make (SlT la 0) rfl rfl (fun w' hw' hk => ?_) (fun u hu => ?_)
          · have hk3 := hk ⟨2, .data⟩ (by simp) rfl _ _ _ rfl rfl rfl (by simp) rfl
            obtain ⟨Q1, Q2, Q3, q1, q2, q3, he, hr, hc⟩ := hk3.now
            go_simp
            first
            | exact retL_grow (CA1.out _ _ _ _ _ _ _ hr hc)
            | (obtain ⟨hr, hc⟩ := runV_in he hr hc
               exact retL_grow (CA1.out _ _ _ _ _ _ _ hr hc))
          obtain ⟨_, _, Aa, na, ca1, rfl, hna, hrd⟩ := hu
          clear hna hrd
          simp only [Act.put, List.setIfInBounds_toArray, List.set_cons_zero, List.set_cons_succ]
          repeat (refine wpG_one rfl rfl rfl ?_; intro K hK; go_big_quiet_op; go_big_quiet_on)
          refine wpG_nil (fun Za hw5 hG => ?_)
          have LZa : Hid (Le XW Za) := hw5.le
          have hsl := hG.2.now.at
          have HAa : Hid (∀ W, Le Za W → Rd W W.heap.size 2 Aa na (rR la)) := fun W hW => (hsl.2.below hW).more hW.size
          obtain rfl : na = la.length := hsl.1
          clear hw5 hG hsl CA1 v0 v1 v2 v3
          go_upto_region 31 with (fail)
          obtain ⟨k0, k1, k2, k3⟩ := HX.out Za (LXW2.out.trans LZa.out)
          have v0 := ovr_cell k0
          have v1 := ovr_cell k1
          have v2 := ovr_cell k2
          have v3 := ovr_cell k3
          clear k0 k1 k2 k3
          refine wp_region_make (fun j => if j = 0 then some (fun u _ => u = .agg (ia 117 q)) else if j = 2 then some (OwnF R') else if j = 3 then some (SlT lq 0) else none) (by kernel_rfl) (by kernel_rfl) (by kernel_rfl) ?_
          refine wpG_make (fun u _ => u = .agg (ia 117 q)) rfl rfl (fun w' hw' _ => ?_) (fun u hu => ?_)
          · exact load_grow rfl rfl (HQc.out w' ((LZa.out).trans hw'.le))
          obtain ⟨_, _, rfl⟩ := hu
          simp only [Act.put, List.setIfInBounds_toArray, List.set_cons_zero, List.set_cons_succ]
          repeat (refine wpG_one rfl rfl rfl ?_; intro K hK; go_big_quiet_op; go_big_quiet_on)
          refine wpG_make (OwnF R') rfl rfl (fun w' hw' _ => ?_) (fun u hu => ?_)
          · go_simp
            exact own_grow (own_any _ _ _ _ _ _ R' w' (HI.out _ ((LXW2.out.trans LZa.out).trans hw'.le)))
          obtain ⟨_, _, B1, B2, B3, B4, B5, B6, rfl, _, _⟩ := hu
          simp only [Act.put, List.setIfInBounds_toArray, List.set_cons_zero, List.set_cons_succ]
          repeat (refine wpG_one rfl rfl rfl ?_; intro K hK; go_big_quiet_op; go_big_quiet_on)
          refine wpG_make (SlT lq 0) rfl rfl (fun w' hw' hk => ?_) (fun u hu => ?_)
          · have hk3 := hk ⟨2, .data⟩ (by simp) rfl _ _ _ rfl rfl rfl (by simp) rfl
            obtain ⟨Q1, Q2, Q3, q1, q2, q3, he, hr, hc⟩ := hk3.now
            go_simp
            first
            | exact retL_grow (CA2.out _ _ _ _ _ _ _ hr hc)
            | (obtain ⟨hr, hc⟩ := runV_in he hr hc
               exact retL_grow (CA2.out _ _ _ _ _ _ _ hr hc))
          obtain ⟨_, _, Aq, nq, cq1, rfl, hna, hrd⟩ := hu
          clear hna hrd
          simp only [Act.put, List.setIfInBounds_toArray, List.set_cons_zero, List.set_cons_succ]
          repeat (refine wpG_one rfl rfl rfl ?_; intro K hK; go_big_quiet_op; go_big_quiet_on)
          refine wpG_nil (fun Zb hw5 hG => ?_)
          have LZab : Hid (Le Za Zb) := hw5.le
          have LZb : Hid (Le XW Zb) := LZa.out.trans hw5.le
          have hsl := hG.2.now.at
          have HAq : Hid (∀ W, Le Zb W → Rd W W.heap.size 2 Aq nq (rR lq)) := fun W hW => (hsl.2.below hW).more hW.size
          obtain rfl : nq = lq.length := hsl.1
          clear hw5 hG hsl CA2 v0 v1 v2 v3
          go_upto_region 32 with (fail)
          obtain ⟨k0, k1, k2, k3⟩ := HXX.out Zb (LXX.out.trans LZb.out)
          have v0 := ovr_cell k0
          have v1 := ovr_cell k1
          have v2 := ovr_cell k2
          have v3 := ovr_cell k3
          clear k0 k1 k2 k3
          refine wp_region_make_two (fun j => if j = 0 then some (fun u _ => u = .agg (ia 117 q)) else if j = 2 then some (OwnF RX) else if j = 4 then some (fun u _ => u = .tuple #[.agg #[I U0, I U1], I 0]) else if j = 8 then some (NewAt Zb #[I 0, I 0] 23) else none) [7] (by kernel_rfl) (by kernel_rfl) (by kernel_rfl) (by kernel_rfl) (by kernel_rfl) (by intro i hi; simp at hi; subst hi; rfl) ⟨rfl, rfl⟩ (fun c a d v w h => by cases d <;> exact h) ?_
          simp only [sleepTwo_cons, sleepTwo_two]
          refine wpG_make (fun u _ => u = .agg (ia 117 q)) rfl rfl (fun w' hw' _ => ?_) (fun u hu => ?_)
          · exact load_grow rfl rfl (HQc.out w' ((LZb.out).trans hw'.le))
          obtain ⟨_, _, rfl⟩ := hu
          simp only [Act.put, List.setIfInBounds_toArray, List.set_cons_zero, List.set_cons_succ]
          repeat (refine wpG_one rfl rfl rfl ?_; intro K hK; go_big_quiet_op; go_big_quiet_on)
          refine wpG_make (OwnF RX) rfl rfl (fun w' hw' _ => ?_) (fun u hu => ?_)
          · go_simp
            exact own_grow (own_any _ _ _ _ _ _ RX w' (HIX.out _ ((LXX.out.trans LZb.out).trans hw'.le)))
          obtain ⟨_, _, B1, B2, B3, B4, B5, B6, rfl, _, _⟩ := hu
          simp only [Act.put, List.setIfInBounds_toArray, List.set_cons_zero, List.set_cons_succ]
          repeat (refine wpG_one rfl rfl rfl ?_; intro K hK; go_big_quiet_op; go_big_quiet_on)
          refine wpG_make (fun u _ => u = .tuple #[.agg #[I U0, I U1], I 0]) rfl rfl (fun w' hw' hk => ?_) (fun u hu => ?_)
          · have hk3 := hk ⟨2, .data⟩ (by simp) rfl _ _ _ rfl rfl rfl (by simp) rfl
            obtain ⟨Q1, Q2, Q3, q1, q2, q3, he, hr, hc⟩ := hk3.now
            go_simp
            first
            | exact call_grow (CD.out _ _ _ _ _ _ _ hr hc)
            | (obtain ⟨hr, hc⟩ := runV_in he hr hc
               exact call_grow (CD.out _ _ _ _ _ _ _ hr hc))
          obtain ⟨_, _, rfl⟩ := hu
          skip
          simp only [Act.put, List.setIfInBounds_toArray, List.set_cons_zero, List.set_cons_succ]
          repeat (refine wpG_one rfl rfl rfl ?_; intro K hK; go_big_quiet_op; go_big_quiet_on)
          refine wpG_make (NewAt Zb #[I 0, I 0] 23) rfl rfl (fun w' hw' _ => ?_) (fun u hu => ?_)
          · go_simp
            exact new_grow hw'
          obtain ⟨_, _, ya, rfl, _, hxb⟩ := hu
          simp only [Act.put, List.setIfInBounds_toArray, List.set_cons_zero, List.set_cons_succ]
          repeat (refine wpG_one rfl rfl rfl ?_; intro K hK; go_big_quiet_op; go_big_quiet_on)
          refine wpG_nil (fun w5 hw5 hG => ?_)
          have hx5 := (Box.now hG.2).at.1
          intro s t hs ht
          obtain rfl := Option.some.inj hs
          obtain rfl := Option.some.inj ht
          clear hG hs ht
          refine wp_store_row 23 _ _ rfl ya rfl _ _ hx5 #[I U0, I U1] rfl (two2 _ _) rfl (by kernel_rfl) ?_
          refine ⟨hw5.set hxb _, ?_⟩
          refine wp_assign _ (I 0) rfl rfl ?_
          refine ⟨hw5.set hxb _, ?_⟩
          simp only [Act.put, List.setIfInBounds_toArray, List.set_cons_zero, List.set_cons_succ]
          have q0 : (w5.setRow ya #[I U0, I U1]).heap[ya]? = some (.cells #[I U0, I U1] 23 (0, 0)) := setRow_same hx5
          have hle : Le Zb (w5.setRow ya #[I U0, I U1]) := below_setRow hw5.le hxb _
          generalize w5.setRow ya #[I U0, I U1] = Zc at *
          have LZbc : Hid (Le Zb Zc) := hle
          have QZc : Hid (∀ W, Le Zc W → W.cell? ⟨ya, 0, none⟩ = some (I U0) ∧ W.cell? ⟨ya, 1, none⟩ = some (I U1)) := fun W hW => by
            have h1 := (Below.block hW _ (Array.getElem?_eq_some_iff.1 q0).1).trans q0
            exact ⟨by rw [cell_of_row _ _ _ _ _ _ h1]; rfl, by rw [cell_of_row _ _ _ _ _ _ h1]; rfl⟩
          clear hx5 hw5 hxb q0 hle v0 v1 v2 v3
          have LZc : Hid (Le XW Zc) := LZb.out.trans LZbc.out
          obtain ⟨a0, a1⟩ := QW3.out Zc (LV3.out.trans LZc.out)
          obtain ⟨b0, b1⟩ := QZc.out Zc (Le.refl _)
          have e1 : decide (U0 < X0) = false := decide_eq_false (by have := HY.out; omega)
          have e2 : decide (X1 < U1) = false := decide_eq_false (by have := HY.out; omega)
          clear CD
          go_wp2_with fail
          clear a0 a1 b0 b1 e1 e2
          go_loopw [28] (fun i wr => ∃ k : Nat, k ≤ j ∧ i = .int .i64 k ∧ Le Zc wr) (fun i _ => j - (intOf i).toNat)
          case atStart => exact ⟨0, by omega, rfl, Le.refl _⟩
          case round =>
            rename World => YA
            obtain ⟨k, hk, rfl, hbw⟩ := hrel
            have LcA : Hid (Le Zc YA) := hbw
            have LYA : Hid (Le XW YA) := LZc.out.trans hbw
            clear hbw
            obtain ⟨k0, k1, k2, k3⟩ := HX.out YA (LXW2.out.trans LYA.out)
            rw [HN.out] at k1
            by_cases hlt : k < j
            · have hki : decide ((k : Int) < (j : Int)) = true := decide_eq_true (by omega)
              have hkn : decide (k < j) = true := decide_eq_true hlt
              have hj200 := HN1.out.2
              have C1 : Hid (∀ W, Le YA W → Calls Try.prog 40 #[.slice Ar rs.length cr1, I k] W fun e w' => e = .returned (.bool (goodB p R' k)) ∧ Below W.heap.size W w') := fun W hW => by
                have := hasSecond_any Ar rs.length cr1 rs k W rfl (by have := Hrl.out.1; omega) (HA.out W (LX.out.trans (LXX.out.trans (LYA.out.trans hW))))
                rw [Hrl.out.2 k hlt] at this; exact this
              have C2 : Hid (goodB p R' k = true → ∀ W, Le YA W → Calls Try.prog 40 #[.slice Aa la.length ca1, I k] W fun e w' => e = .returned (.bool true) ∧ Below W.heap.size W w') := fun hb W hW => by
                have := hasSecond_any Aa la.length ca1 la k W rfl (by have := Hal.out.1; omega) (HAa.out W (LZab.out.trans (LZbc.out.trans (LcA.out.trans hW))))
                rw [Hal.out.2 k hlt hb] at this; exact this
              have C3 : Hid (goodB p R' k = true → ∀ W, Le YA W → Calls Try.prog 40 #[.slice Aq lq.length cq1, I k] W fun e w' => e = .returned (.bool true) ∧ Below W.heap.size W w') := fun hb W hW => by
                have := hasSecond_any Aq lq.length cq1 lq k W rfl (by have := Hql.out.1; omega) (HAq.out W (LZbc.out.trans (LcA.out.trans hW)))
                rw [Hql.out.2 k hlt hb] at this; exact this
              go_wp2_with fail
              refine (C1.out YA (Le.refl _)).mono ?_
              rintro e YB ⟨rfl, hb⟩
              have LAB : Hid (Le YA YB) := hb
              clear hb k0 k1 k2 k3
              rcases hgd : goodB p R' k with _ | _
              · clear hgd
                go_wp2_with fail
                go_roundw
                case rel => exact ⟨k + 1, by omega, by go_num, LcA.out.trans LAB.out⟩
                case measure => simp only [intOf]; omega
              · have C2' := Lib.hid (C2.out hgd)
                have C3' := Lib.hid (C3.out hgd)
                clear hgd C1 C2 C3
                go_wp2_with fail
                refine (C2'.out YB LAB.out).mono ?_
                rintro e YC ⟨rfl, hb⟩
                have LAC : Hid (Le YA YC) := LAB.out.trans hb
                clear hb
                go_wp2_with fail
                refine (C3'.out YC LAC.out).mono ?_
                rintro e YD ⟨rfl, hb⟩
                have LAD : Hid (Le YA YD) := LAC.out.trans hb
                clear hb
                go_wp2_with fail
                go_roundw
                case rel => exact ⟨k + 1, by omega, by go_num, LcA.out.trans LAD.out⟩
                case measure => simp only [intOf]; omega
            · obtain rfl : k = j := by omega
              have hki : decide ((k : Int) < (k : Int)) = false := decide_eq_false (by omega)
              go_wp2_with fail
              clear k0 k1 k2 k3
              refine (known_any YA).mono ?_
              rintro e WK ⟨rfl, hb⟩
              have LK : Hid (Below w.heap.size w WK) := HU.out _ ((LXW2.out.trans LYA.out).trans hb)
              clear hb
              go_wp2_with fail
              go_ret
              exact ⟨rfl, LK.out⟩
end Go.Proofs.Ytlebefopdnadaaa
