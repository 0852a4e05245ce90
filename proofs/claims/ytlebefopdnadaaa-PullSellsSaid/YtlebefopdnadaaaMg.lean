/- The contract of Sold of the reference. -/
import Derived.Test.YtlebefopdnadaaaJg
import Derived.Test.YtlebefopdnadaaaKg
import Derived.Test.YtlebefopdnadaaaFt
import Derived.Test.YtlebefopdnadaaaObp
import Derived.ArgAppend
namespace Go.Proofs.Ytlebefopdnadaaa
open Go.RowKit
/-- A slice of ranges, wherever it lies. -/
def SlR (l : List Rng) (u : Value) (w : World) : Prop := ∃ A n c, u = .slice A n c ∧ n = l.length ∧ Rd w w.heap.size 2 A n (rR l)
theorem retR_grow {P : Program} {f : FuncId} {args : Array Value} {w : World} {l : List Rng} (h : Calls P f args w (RetR w l)) : Calls P f args w fun e w' => ∃ u, e = .returned u ∧ Le w w' ∧ Box (SlR l) u w' :=
  h.mono fun _ _ ⟨A, n, c, he, hn, hr, hb⟩ => ⟨_, he, hb, fun _ hl => ⟨A, n, c, rfl, hn, (hr.below hl).more hl.size⟩⟩
theorem SlR.at {l : List Rng} {A : Option Addr} {n c : Nat} {w : World} (h : SlR l (.slice A n c) w) : n = l.length ∧ Rd w w.heap.size 2 A n (rR l) := by
  obtain ⟨A', n', c', hu, hn, hr⟩ := h
  injection hu with e1 e2 e3
  subst e1 e2
  exact ⟨hn, hr⟩
/-- A list of ranges: still the empty literal, or a row of one's own from block B on. -/
def SoE (e : TypeId) (B : Nat) (l : List Rng) (v : Value) (w : World) : Prop := (l = [] ∧ ∃ b, v = .slice (some ⟨b, 0, none⟩) 0 0) ∨ w.ownsRow B e 2 v l.length (rc l)
theorem SoE.over {e : TypeId} {B : Nat} {l : List Rng} {v : Value} {w w' : World} (h : SoE e B l v w) (hk : ∀ g, g < w.heap.size → w'.heap[g]? = w.heap[g]?) : SoE e B l v w' :=
  h.imp id fun ho => own_over ho hk
theorem SoE.below {e : TypeId} {B : Nat} {l : List Rng} {v : Value} {w w' : World} (h : SoE e B l v w) (hb : Le w w') : SoE e B l v w' := h.imp id fun ho => own_below ho hb
theorem SoE.rd {e : TypeId} {B : Nat} {l : List Rng} {v : Value} {w : World} (h : SoE e B l v w) : ∃ A c, v = .slice A l.length c ∧ Rd w w.heap.size 2 A l.length (rR l) := by
  rcases h with ⟨rfl, b, rfl⟩ | ho
  · exact ⟨_, _, rfl, Rd.nil⟩
  · exact Rd.of_rc ho
theorem app_soe {P : Program} (w : World) {ops : Array Oper} {rest : List Oper} {o : Oper} {a : Act} {Q : Exit → Act → World → Prop} (hg : o.guard = none) (s x : Operand) (t : TypeId)
    (hop : o.op = Op.call { callee := Callee.builtin Builtin.append, args := #[s, x], argTypes := #[t, t] })
    (e : TypeId) (i : TypeInfo) (z : Value) (bytes : Nat) (h1 : P.underlying t = some (.slice e)) (h2 : P.info? e = some i) (h3 : i.zero = some z) (h4 : i.size = 2) (h5 : i.bytes = bytes) (h6 : z.cells.size = 2)
    {B : Nat} {l : List Rng} {v : Value} (hs : a.eval s = v) (hso : SoE e B l v w) (ad : Addr) (c : Nat) (y : Rng) (hx : a.eval x = .slice (some ad) 1 c)
    (hc : ∀ j u, [I y.lo, I y.hi][j]? = some u → w.cell? (ad.add j) = some u) (hB : B ≤ w.heap.size) (hl : l.length ≤ 1000000) (hb : bytes ≤ 1000)
    (hK : ∀ v' w', SoE e B (l ++ [y]) v' w' → Below B w w' → wpList P ops Q rest (a.put o.dst v') w') : wpList P ops Q (o :: rest) a w := by
  have hm : (l.length + 1) * bytes ≤ 1000001 * 1000 := Nat.mul_le_mul (by omega) hb
  have h1c : ∀ u ∈ [I y.lo, I y.hi], u.oneCell' = true := by simp [Value.oneCell']
  rcases hso with ⟨rfl, b, rfl⟩ | ho
  · refine wpList_append_grows w hg s x t hop e i z 2 bytes h1 h2 h3 h4 h5 h6 (by decide) (some ⟨b, 0, none⟩) 0 0 [] hs (fun h => by cases h) rfl (fun _ _ j u hu => by simp at hu) ad 1 c [I y.lo, I y.hi] hx rfl hc h1c (by omega) (by unfold maxLen; omega) (by simp only [List.length_nil] at hm; omega) ?_
    intro v' w' hown hgr
    refine hK v' w' (.inr ?_) ((Below.refl _ _).grown hgr hB (fun k hk => by cases hk))
    exact own_base hown hB
  · refine wpList_append_own w hg s x t hop B e i z 2 bytes h1 h2 h3 h4 h5 h6 (by decide) v l.length (rc l) hs ho ad 1 c [I y.lo, I y.hi] hx rfl hc h1c (by unfold maxLen; omega) (by omega) hB ?_
    intro v' w' hown hgr _
    refine hK v' w' (.inr ?_) ((Below.refl _ _).grown hgr hB (fun k hk => ?_))
    · rw [rc_app, List.length_append]; exact hown
    · rcases ho.2 with ⟨hq, _⟩ | ⟨q, cap, cur, hq, hqb, _⟩
      · rw [hq] at hk; cases hk
      · rw [hq] at hk; cases hk; exact hqb
theorem endF_bd {p : Vec} {R : Run} (hv : VRun R) (hp : VPul p) : 0 ≤ endF p R ∧ endF p R ≤ R.e := by
  unfold endF
  split
  · have := hv.tlt 0 hv.n1; rw [hv.first] at this; omega
  · rename_i h; exact stopF_on hv hp h
set_option maxRecDepth 100000 in
set_option maxHeartbeats 4000000 in
theorem refSold_any (A1 A2 A3 : Option Addr) (c1 c2 c3 : Nat) (p : Vec) (R : Run) (w : World) (h : RunIn w A1 A2 A3 R) (hv : VRun R) (hp : VPul p) :
    Calls Try.prog 37 #[.agg (ia 117 p), runV A1 A2 A3 c1 c2 c3 R] w (RetR w (soldK p R (runsF (sellF p R) (endF p R).toNat))) := by
  obtain ⟨i0, hi0, iz0, iz1, iz2⟩ := info_parts rng_info
  obtain ⟨W2, hW2⟩ : ∃ W2, W2 = ((w.alloc (.cells (ia 117 p) 30)).alloc (.cells #[.slice A1 R.ss.length c1, I R.e, .slice A2 R.ms.length c2, .slice A3 R.es.length c3] 35)) := ⟨_, rfl⟩
  have T : Hid (Two w A1 A2 A3 c1 c2 c3 p R W2) := hW2 ▸ two_mk h c1 c2 c3 p
  have HW := Lib.hid hW2
  have Hv := Lib.hid hv
  have Hp := Lib.hid hp
  have HC : Hid (∀ W, Le W2 W → W.cell? ⟨w.heap.size + 1, 0, none⟩ = some (.slice A1 R.ss.length c1) ∧ W.cell? ⟨w.heap.size + 1, 1, none⟩ = some (I R.e) ∧ W.cell? ⟨w.heap.size + 1, 2, none⟩ = some (.slice A2 R.ms.length c2) ∧ W.cell? ⟨w.heap.size + 1, 3, none⟩ = some (.slice A3 R.es.length c3)) := fun W hW => ⟨T.out.r0 _ hW, T.out.r1 _ hW, T.out.r2 _ hW, T.out.r3 _ hW⟩
  have HP : Hid (∀ W, Le W2 W → ∀ j, j < 117 → W.cell? ⟨w.heap.size, j, none⟩ = some (I (p j))) := fun W hW j hj => by have := T.out.pul _ hW j hj; rwa [Nat.zero_add] at this
  have HRun : Hid (∀ W, Le W2 W → RunIn W A1 A2 A3 R) := fun W hW => T.out.run.below hW
  have re1 : 1 ≤ R.e := by have := hv.tlt 0 hv.n1; rw [hv.first] at this; omega
  have last := hv.last
  have e20 := hv.e20
  have hz2 : w.heap.size + 2 ≤ W2.heap.size := by have := T.out.size; omega
  obtain ⟨he1, he2⟩ := endF_bd hv hp
  obtain ⟨N, hN⟩ : ∃ N : Nat, endF p R = N := ⟨(endF p R).toNat, by omega⟩
  have HN := Lib.hid hN
  have hN5 : (N : Int) ≤ R.e := by omega
  have pb0 := placeR_bd hv (t := R.e) (by omega)
  have hsl := hp.slip
  have hst := stopF_kind (p := p) hv hp.hold.1
  have hso : ¬ (stopF p R).2 = 0 → 0 ≤ (stopF p R).1 ∧ (stopF p R).1 ≤ R.e := stopF_on hv hp
  have hef : Hid (endF p R = if (stopF p R).2 = 0 then R.e else (stopF p R).1) := rfl
  have hmf : Hid (mostF p R = if (stopF p R).2 = 0 then placeR R R.e else placeR R (stopF p R).1 - p 114) := rfl
  have Hst := Lib.hid hst
  have Hso := Lib.hid hso
  clear h hv hp hW2 hN hst hso
  go_enter Try.func37, Try.ntmps37
  go_upto_region 1 with (fail)
  rw [← HW.out]
  have x1 := ovr_cell (HC.out _ (Le.refl _)).2.1
  refine wp_region_make (fun j => if j = 0 then some Emp else none) (by kernel_rfl) (by kernel_rfl) (by kernel_rfl) ?_
  refine wpG_make Emp rfl rfl (fun w' hw' _ => ?_) (fun u hu => ?_)
  · go_simp
    exact emp_grow _
  obtain ⟨_, _, b0, rfl⟩ := hu
  simp only [Act.put, List.setIfInBounds_toArray, List.set_cons_zero, List.set_cons_succ]
  repeat (refine wpG_one rfl rfl rfl ?_; intro K hK; go_big_quiet_op; go_big_quiet_on)
  refine wpG_nil (fun W3 hw3 hG => ?_)
  have L3 : Hid (Le W2 W3) := hw3.le
  clear hw3 hG x1
  obtain ⟨x0, x1, x2, x3⟩ := HC.out _ L3.out
  go_wp2_with fail
  refine (refPlace_any A1 A2 A3 c1 c2 c3 R R.e W3 (HRun.out _ L3.out) Hv.out (by omega) (Int.le_refl _)).mono ?_
  rintro e W4 ⟨rfl, hb4⟩
  have L4 : Hid (Le W2 W4) := L3.out.trans hb4
  clear hb4 x0 x1 x2 x3
  obtain ⟨x0, x1, x2, x3⟩ := HC.out _ L4.out
  go_wp2_with (refine wpList_load_ia rfl 30 _ rfl w.heap.size 0 rfl 117 p _ (T.out.pul _ L4.out) Try.underlying30 rfl (by kernel_rfl) ?_)
  refine (refStop_any A1 A2 A3 c1 c2 c3 p R W4 (HRun.out _ L4.out) Hv.out Hp.out).mono ?_
  rintro e W5 ⟨rfl, hb5⟩
  have L5 : Hid (Le W2 W5) := L4.out.trans hb5
  clear hb5 x0 x1 x2 x3
  go_upto_if 29 with (fail)
  go_cut [6, 7] from 30 to 36 (fun a b wx => a = I N ∧ b = I (mostF p R) ∧ Le W5 wx)
  case first =>
    obtain ⟨x0, x1, x2, x3⟩ := HC.out _ L5.out
    by_cases hs : 0 ≤ (stopF p R).1
    · have hk2 : ¬ (stopF p R).2 = 0 := by have := Hst.out; omega
      have hb := Hso.out hk2
      have pb := placeR_bd Hv.out (t := (stopF p R).1) hb.1
      have he : Hid ((stopF p R).1 = (N : Int)) := by show _ = _; rw [← HN.out, hef.out, if_neg hk2]
      have hm : Hid (mostF p R = placeR R (stopF p R).1 - p 114) := by show _ = _; rw [hmf.out, if_neg hk2]
      have Hr5 := Lib.hid (HRun.out _ L5.out)
      have y0 := ovr_cell x0
      have y1 := ovr_cell x1
      have y2 := ovr_cell x2
      have y3 := ovr_cell x3
      have y4 := ovr_cell (HP.out _ L5.out 114 (by omega))
      clear hk2
      generalize stopF p R = st at *
      obtain ⟨hb1, hb2⟩ := hb
      go_wp2_with fail
      refine wp_region_below_lit (by kernel_rfl) (by kernel_rfl) ?_
      repeat (go_big_quiet_step ((go_at_call 52; exact call_below (refPlace_any _ _ _ _ _ _ R _ _ (Hr5.out.below (ovr_below _ _)) Hv.out (by omega) (by omega)))))
      refine wpQuiet_nil ?_
      intro w6 hb6
      have L6 : Hid (Le W5 w6) := hb6
      clear hb6 y0 y1 y2 y3 y4
      go_wp2_with fail
      go_meet
      case rel => exact ⟨by rw [he.out], by rw [hm.out], L6.out⟩
    · have hk2 : (stopF p R).2 = 0 := by have := Hst.out; omega
      have he : Hid (R.e = (N : Int)) := by show _ = _; rw [← HN.out, hef.out, if_pos hk2]
      have hm : Hid (mostF p R = placeR R R.e) := by show _ = _; rw [hmf.out, if_pos hk2]
      clear hk2
      go_wp2_with fail
      go_meet
      case rel => exact ⟨by rw [he.out], by rw [hm.out], Le.refl _⟩
  case rest =>
    obtain ⟨rfl, rfl, hcl⟩ := hcut
    have L6 : Hid (Le W2 wc) := L5.out.trans hcl
    clear hcl
    obtain ⟨x0, x1, x2, x3⟩ := HC.out _ L6.out
    have y0 := ovr_cell x0
    have y1 := ovr_cell x1
    have y2 := ovr_cell x2
    have y3 := ovr_cell x3
    have CS : Hid (∀ W, Le W2 W → ∀ a b : Int, Calls Try.prog 58 #[runV A1 A2 A3 c1 c2 c3 R, I a, I b] W (RetR W (strs R a b))) := fun W hW a b => refStretches_any A1 A2 A3 c1 c2 c3 R a b W (HRun.out W hW) (by omega) (fun k hk => (Hv.out.et k hk).1)
    clear x0 x1 x2 x3
    go_wp2_with fail
    refine wp_region_make (fun j => if j = 1 then some (SlR (strs R 2 3)) else if j = 3 then some (SlR (strs R 4 5)) else none) (by kernel_rfl) (by kernel_rfl) (by kernel_rfl) ?_
    repeat (refine wpG_one rfl rfl rfl ?_; intro K hK; go_big_quiet_op; go_big_quiet_on)
    refine wpG_make (SlR (strs R 2 3)) rfl rfl (fun w' hw' _ => ?_) (fun v hv => ?_)
    · go_simp
      exact retR_grow (CS.out w' (L6.out.trans hw'.le) 2 3)
    obtain ⟨_, _, B1, n1, d1, rfl, hcl1, hcl2⟩ := hv
    clear hcl1 hcl2
    simp only [Act.put, List.setIfInBounds_toArray, List.set_cons_zero, List.set_cons_succ]
    repeat (refine wpG_one rfl rfl rfl ?_; intro K hK; go_big_quiet_op; go_big_quiet_on)
    refine wpG_make (SlR (strs R 4 5)) rfl rfl (fun w' hw' _ => ?_) (fun v hv => ?_)
    · go_simp
      exact retR_grow (CS.out w' (L6.out.trans hw'.le) 4 5)
    obtain ⟨_, _, B2, n2, d2, rfl, hcl1, hcl2⟩ := hv
    clear hcl1 hcl2
    simp only [Act.put, List.setIfInBounds_toArray, List.set_cons_zero, List.set_cons_succ]
    repeat (refine wpG_one rfl rfl rfl ?_; intro K hK; go_big_quiet_op; go_big_quiet_on)
    refine wpG_nil (fun W7 hw7 hG => ?_)
    have hG1 := hG.1.2
    have hG2 := hG.2
    have L7 : Hid (Le W2 W7) := L6.out.trans hw7.le
    have HS1 : Hid (∀ W, Le W7 W → Rd W W.heap.size 2 B1 n1 (rR (strs R 2 3))) := fun W hW => (hG1 W hW).at.2
    have HS2 : Hid (∀ W, Le W7 W → Rd W W.heap.size 2 B2 n2 (rR (strs R 4 5))) := fun W hW => (hG2 W hW).at.2
    have Hn1 : Hid (n1 = (strs R 2 3).length) := (hG1 W7 (Le.refl _)).at.1
    have Hn2 : Hid (n2 = (strs R 4 5).length) := (hG2 W7 (Le.refl _)).at.1
    have n1b : n1 ≤ 1000 := by rw [Hn1.out]; have := strs_len R 2 3; omega
    have n2b : n2 ≤ 1000 := by rw [Hn2.out]; have := strs_len R 4 5; omega
    clear hw7 hG hG1 hG2 y0 y1 y2 y3 CS
    have HFe : Hid (∀ m : Nat, (m : Int) < R.e → sellF p R m = (((at0 R.ss (hldK R m R.ss.length)).ph == 4) && !(strs R 2 3).any (toB m) && !(strs R 4 5).any (toB m) && goodB p R m)) := fun m hm => sell_ref Hv.out hm
    have HGd : Hid (∀ m : Nat, (m : Int) + 1 ≤ R.e → ∀ W, Le W2 W → Calls Try.prog 73 #[.agg (ia 117 p), runV A1 A2 A3 c1 c2 c3 R, I m] W fun e w' => e = .returned (.bool (goodB p R m)) ∧ Below W.heap.size W w') := fun m hm W hW => refGood_any A1 A2 A3 c1 c2 c3 p R m W (HRun.out W hW) Hv.out Hp.out hm
    have HHo : Hid (∀ m : Nat, ∀ W, Le W2 W → Calls Try.prog 74 #[runV A1 A2 A3 c1 c2 c3 R, I m] W fun e w' => e = .returned (I (hldK R m R.ss.length)) ∧ Below W.heap.size W w') := fun m W hW => refHolds_any A1 A2 A3 c1 c2 c3 R m W (HRun.out W hW)
    have HT1 : Hid (∀ m : Nat, ∀ W, Le W7 W → Calls Try.prog 75 #[.slice B1 n1 d1, I m] W fun e w' => e = .returned (.bool ((strs R 2 3).any (toB m))) ∧ Below W.heap.size W w') := fun m W hW => touches_any B1 n1 d1 _ m W Hn1.out (by omega) (HS1.out W hW)
    have HT2 : Hid (∀ m : Nat, ∀ W, Le W7 W → Calls Try.prog 75 #[.slice B2 n2 d2, I m] W fun e w' => e = .returned (.bool ((strs R 4 5).any (toB m))) ∧ Below W.heap.size W w') := fun m W hW => touches_any B2 n2 d2 _ m W Hn2.out (by omega) (HS2.out W hW)
    have HfN : Hid (soldK p R (runsF (sellF p R) (endF p R).toNat) = soldK p R (rnK (sellF p R) N).1) := by show _ = _; rw [HN.out, Int.toNat_natCast]; rfl
    generalize hf : sellF p R = f at *
    clear hf
    generalize hmo : mostF p R = mo at *
    have HMo := Lib.hid hmo
    clear hmo
    go_wp2_with fail
    go_loopw [5, 12] (fun v t wr => ∃ k : Nat, k ≤ N + 1 ∧ t = .int .i64 k ∧ (k ≤ N → (rnK f k).2 = false) ∧ SoE 23 W7.heap.size (soldK p R (rnK f (min k N)).1) v wr ∧ Le W7 wr) (fun _ t _ => N + 1 - (intOf t).toNat)
    case atStart => exact ⟨0, by omega, rfl, fun _ => rfl, .inl ⟨by rw [Nat.zero_min]; rfl, _, rfl⟩, Le.refl _⟩
    case round =>
      obtain ⟨k, hk, rfl, hop, hown, hbw⟩ := hrel
      have HL : Hid (Le W7 wr) := hbw
      have Hop := Lib.hid hop
      have Hown := Lib.hid hown
      have hlenk : (soldK p R (rnK f (min k N)).1).length ≤ 100000 := by have h1 := soldK_len p R (rnK f (min k N)).1; have h2 := rnK_len f (min k N); omega
      clear hbw hop hown
      by_cases hlt : k < N
      · go_wp2_with fail
        go_loopw [12] (fun t wx => ∃ m : Nat, k ≤ m ∧ m ≤ N ∧ t = .int .i64 m ∧ (∀ i, k ≤ i → i < m → f i = true) ∧ Le wr wx) (fun t _ => N - (intOf t).toNat)
        case atStart => exact ⟨k, Nat.le_refl _, by omega, rfl, fun i h1 h2 => by omega, Le.refl _⟩
        case round =>
          obtain ⟨m, hm1, hm2, rfl, hall, hbx⟩ := hrel
          have Hall := Lib.hid hall
          have LM7 : Hid (Le W7 wr) := HL.out.trans hbx
          have LM2 : Hid (Le W2 wr) := L7.out.trans LM7.out
          have HBX := Lib.hid hbx
          clear hall hbx
          go_upto_region 11 with (fail)
          go_cut [78] from 47 to 80 (fun c wx => c = .bool (decide (m < N) && f m) ∧ Le wr wx)
          case first =>
            obtain ⟨x0, x1, x2, x3⟩ := HC.out _ LM2.out
            by_cases hmN : m < N
            · have hmR : (m : Int) < R.e := by omega
              have hd : decide ((m : Int) < (N : Int)) = true := decide_eq_true (by omega)
              have hdn : Hid (decide (m < N) = true) := decide_eq_true hmN
              obtain ⟨hj1, hj2, hj3⟩ := hld_in Hv.out (t := (m : Int)) (by omega) hmR
              have hfm := HFe.out m hmR
              have HGm := Lib.hid (HGd.out m (by omega))
              have HHm := Lib.hid (HHo.out m)
              have HT1m := Lib.hid (HT1.out m)
              have HT2m := Lib.hid (HT2.out m)
              generalize hldK R (m : Int) R.ss.length = j at *
              generalize (strs R 2 3).any (toB m) = t1 at *
              generalize (strs R 4 5).any (toB m) = t2 at *
              generalize goodB p R m = gd at *
              obtain ⟨b, o, rfl, hB, s0, s1, s2, s3, s4, s5, s6, s7⟩ := (HRun.out wr LM2.out).s.stg hj1
              have y0 := ovr_cell x0
              have y1 := ovr_cell x1
              have y2 := ovr_cell x2
              have y3 := ovr_cell x3
              have z1 := ovr_cell s1
              have ji0 : (0 : Int) ≤ (j : Int) := by omega
              have ji1 : (j : Int) < (R.ss.length : Int) := by omega
              clear x0 x1 x2 x3 s0 s1 s2 s3 s4 s5 s6 s7 hj2 hj3
              generalize (at0 R.ss j).ph = ph at *
              have Hfm := Lib.hid hfm
              clear hfm
              rcases hp1 : (ph == 4) with _ | _
              · have hff : Hid ((decide (m < N) && f m) = false) := by show _ = _; rw [Hfm.out, hp1]; simp
                refine wp_region_make (fun j' => if j' = 8 then some (fun u _ => u = I j) else if j' = 17 then some (fun u _ => u = .bool t1) else if j' = 23 then some (fun u _ => u = .bool t2) else if j' = 27 then some (fun u _ => u = .agg (ia 117 p)) else if j' = 30 then some (fun u _ => u = .bool gd) else none) (by kernel_rfl) (by kernel_rfl) (by kernel_rfl) ?_
                repeat (first | (refine wpG_one rfl rfl rfl ?_; intro K hK; go_big_quiet_op; go_big_quiet_on) | (refine wpG_skip rfl ?_; simp only [Act.put, List.setIfInBounds_toArray, List.set_cons_zero, List.set_cons_succ]))
                refine wpG_make (fun u _ => u = I j) rfl rfl (fun w' hw' _ => ?_) (fun u hu => ?_)
                · go_simp; exact call_grow (HHm.out w' (LM2.out.trans hw'.le))
                obtain ⟨_, _, rfl⟩ := hu
                simp only [Act.put, List.setIfInBounds_toArray, List.set_cons_zero, List.set_cons_succ]
                repeat (first | (refine wpG_one rfl rfl rfl ?_; intro K hK; go_big_quiet_op; go_big_quiet_on) | (refine wpG_skip rfl ?_; simp only [Act.put, List.setIfInBounds_toArray, List.set_cons_zero, List.set_cons_succ]))
                refine wpG_nil (fun w5 hw5 _ => ?_)
                have LX : Hid (Le wr w5) := hw5.le
                clear hw5 y0 y1 y2 y3 z1
                go_wp2_with fail
                go_meet
                case rel => exact ⟨by rw [hff.out], LX.out⟩
              · rcases ht1 : t1 with _ | _
                case true =>
                  have hff : Hid ((decide (m < N) && f m) = false) := by show _ = _; rw [Hfm.out, hp1, ht1]; simp
                  rw [ht1] at HT1m
                  refine wp_region_make (fun j' => if j' = 8 then some (fun u _ => u = I j) else if j' = 17 then some (fun u _ => u = .bool true) else if j' = 23 then some (fun u _ => u = .bool t2) else if j' = 27 then some (fun u _ => u = .agg (ia 117 p)) else if j' = 30 then some (fun u _ => u = .bool gd) else none) (by kernel_rfl) (by kernel_rfl) (by kernel_rfl) ?_
                  repeat (first | (refine wpG_one rfl rfl rfl ?_; intro K hK; go_big_quiet_op; go_big_quiet_on) | (refine wpG_skip rfl ?_; simp only [Act.put, List.setIfInBounds_toArray, List.set_cons_zero, List.set_cons_succ]))
                  refine wpG_make (fun u _ => u = I j) rfl rfl (fun w' hw' _ => ?_) (fun u hu => ?_)
                  · go_simp; exact call_grow (HHm.out w' (LM2.out.trans hw'.le))
                  obtain ⟨_, _, rfl⟩ := hu
                  simp only [Act.put, List.setIfInBounds_toArray, List.set_cons_zero, List.set_cons_succ]
                  repeat (first | (refine wpG_one rfl rfl rfl ?_; intro K hK; go_big_quiet_op; go_big_quiet_on) | (refine wpG_skip rfl ?_; simp only [Act.put, List.setIfInBounds_toArray, List.set_cons_zero, List.set_cons_succ]))
                  refine wpG_make (fun u _ => u = .bool true) rfl rfl (fun w' hw' _ => ?_) (fun u hu => ?_)
                  · go_simp; exact call_grow (HT1m.out w' (LM7.out.trans hw'.le))
                  obtain ⟨_, _, rfl⟩ := hu
                  simp only [Act.put, List.setIfInBounds_toArray, List.set_cons_zero, List.set_cons_succ]
                  repeat (first | (refine wpG_one rfl rfl rfl ?_; intro K hK; go_big_quiet_op; go_big_quiet_on) | (refine wpG_skip rfl ?_; simp only [Act.put, List.setIfInBounds_toArray, List.set_cons_zero, List.set_cons_succ]))
                  refine wpG_nil (fun w5 hw5 _ => ?_)
                  have LX : Hid (Le wr w5) := hw5.le
                  clear hw5 y0 y1 y2 y3 z1
                  go_wp2_with fail
                  go_meet
                  case rel => exact ⟨by rw [hff.out], LX.out⟩
                rcases ht2 : t2 with _ | _
                case true =>
                  have hff : Hid ((decide (m < N) && f m) = false) := by show _ = _; rw [Hfm.out, hp1, ht2]; simp
                  rw [ht1] at HT1m
                  rw [ht2] at HT2m
                  refine wp_region_make (fun j' => if j' = 8 then some (fun u _ => u = I j) else if j' = 17 then some (fun u _ => u = .bool false) else if j' = 23 then some (fun u _ => u = .bool true) else if j' = 27 then some (fun u _ => u = .agg (ia 117 p)) else if j' = 30 then some (fun u _ => u = .bool gd) else none) (by kernel_rfl) (by kernel_rfl) (by kernel_rfl) ?_
                  repeat (first | (refine wpG_one rfl rfl rfl ?_; intro K hK; go_big_quiet_op; go_big_quiet_on) | (refine wpG_skip rfl ?_; simp only [Act.put, List.setIfInBounds_toArray, List.set_cons_zero, List.set_cons_succ]))
                  refine wpG_make (fun u _ => u = I j) rfl rfl (fun w' hw' _ => ?_) (fun u hu => ?_)
                  · go_simp; exact call_grow (HHm.out w' (LM2.out.trans hw'.le))
                  obtain ⟨_, _, rfl⟩ := hu
                  simp only [Act.put, List.setIfInBounds_toArray, List.set_cons_zero, List.set_cons_succ]
                  repeat (first | (refine wpG_one rfl rfl rfl ?_; intro K hK; go_big_quiet_op; go_big_quiet_on) | (refine wpG_skip rfl ?_; simp only [Act.put, List.setIfInBounds_toArray, List.set_cons_zero, List.set_cons_succ]))
                  refine wpG_make (fun u _ => u = .bool false) rfl rfl (fun w' hw' _ => ?_) (fun u hu => ?_)
                  · go_simp; exact call_grow (HT1m.out w' (LM7.out.trans hw'.le))
                  obtain ⟨_, _, rfl⟩ := hu
                  simp only [Act.put, List.setIfInBounds_toArray, List.set_cons_zero, List.set_cons_succ]
                  repeat (first | (refine wpG_one rfl rfl rfl ?_; intro K hK; go_big_quiet_op; go_big_quiet_on) | (refine wpG_skip rfl ?_; simp only [Act.put, List.setIfInBounds_toArray, List.set_cons_zero, List.set_cons_succ]))
                  refine wpG_make (fun u _ => u = .bool true) rfl rfl (fun w' hw' _ => ?_) (fun u hu => ?_)
                  · go_simp; exact call_grow (HT2m.out w' (LM7.out.trans hw'.le))
                  obtain ⟨_, _, rfl⟩ := hu
                  simp only [Act.put, List.setIfInBounds_toArray, List.set_cons_zero, List.set_cons_succ]
                  repeat (first | (refine wpG_one rfl rfl rfl ?_; intro K hK; go_big_quiet_op; go_big_quiet_on) | (refine wpG_skip rfl ?_; simp only [Act.put, List.setIfInBounds_toArray, List.set_cons_zero, List.set_cons_succ]))
                  refine wpG_nil (fun w5 hw5 _ => ?_)
                  have LX : Hid (Le wr w5) := hw5.le
                  clear hw5 y0 y1 y2 y3 z1
                  go_wp2_with fail
                  go_meet
                  case rel => exact ⟨by rw [hff.out], LX.out⟩
                have hff : Hid ((decide (m < N) && f m) = gd) := by show _ = _; rw [Hfm.out, hp1, ht1, ht2, hdn.out]; simp
                rw [ht1] at HT1m
                rw [ht2] at HT2m
                refine wp_region_make (fun j' => if j' = 8 then some (fun u _ => u = I j) else if j' = 17 then some (fun u _ => u = .bool false) else if j' = 23 then some (fun u _ => u = .bool false) else if j' = 27 then some (fun u _ => u = .agg (ia 117 p)) else if j' = 30 then some (fun u _ => u = .bool gd) else none) (by kernel_rfl) (by kernel_rfl) (by kernel_rfl) ?_
                repeat (first | (refine wpG_one rfl rfl rfl ?_; intro K hK; go_big_quiet_op; go_big_quiet_on) | (refine wpG_skip rfl ?_; simp only [Act.put, List.setIfInBounds_toArray, List.set_cons_zero, List.set_cons_succ]))
                refine wpG_make (fun u _ => u = I j) rfl rfl (fun w' hw' _ => ?_) (fun u hu => ?_)
                · go_simp; exact call_grow (HHm.out w' (LM2.out.trans hw'.le))
                obtain ⟨_, _, rfl⟩ := hu
                simp only [Act.put, List.setIfInBounds_toArray, List.set_cons_zero, List.set_cons_succ]
                repeat (first | (refine wpG_one rfl rfl rfl ?_; intro K hK; go_big_quiet_op; go_big_quiet_on) | (refine wpG_skip rfl ?_; simp only [Act.put, List.setIfInBounds_toArray, List.set_cons_zero, List.set_cons_succ]))
                refine wpG_make (fun u _ => u = .bool false) rfl rfl (fun w' hw' _ => ?_) (fun u hu => ?_)
                · go_simp; exact call_grow (HT1m.out w' (LM7.out.trans hw'.le))
                obtain ⟨_, _, rfl⟩ := hu
                simp only [Act.put, List.setIfInBounds_toArray, List.set_cons_zero, List.set_cons_succ]
                repeat (first | (refine wpG_one rfl rfl rfl ?_; intro K hK; go_big_quiet_op; go_big_quiet_on) | (refine wpG_skip rfl ?_; simp only [Act.put, List.setIfInBounds_toArray, List.set_cons_zero, List.set_cons_succ]))
                refine wpG_make (fun u _ => u = .bool false) rfl rfl (fun w' hw' _ => ?_) (fun u hu => ?_)
                · go_simp; exact call_grow (HT2m.out w' (LM7.out.trans hw'.le))
                obtain ⟨_, _, rfl⟩ := hu
                simp only [Act.put, List.setIfInBounds_toArray, List.set_cons_zero, List.set_cons_succ]
                repeat (first | (refine wpG_one rfl rfl rfl ?_; intro K hK; go_big_quiet_op; go_big_quiet_on) | (refine wpG_skip rfl ?_; simp only [Act.put, List.setIfInBounds_toArray, List.set_cons_zero, List.set_cons_succ]))
                refine wpG_make (fun u _ => u = .agg (ia 117 p)) rfl rfl (fun w' hw' _ => ?_) (fun u hu => ?_)
                · exact load_grow rfl rfl (T.out.pul _ (LM2.out.trans hw'.le))
                obtain ⟨_, _, rfl⟩ := hu
                simp only [Act.put, List.setIfInBounds_toArray, List.set_cons_zero, List.set_cons_succ]
                repeat (first | (refine wpG_one rfl rfl rfl ?_; intro K hK; go_big_quiet_op; go_big_quiet_on) | (refine wpG_skip rfl ?_; simp only [Act.put, List.setIfInBounds_toArray, List.set_cons_zero, List.set_cons_succ]))
                refine wpG_make (fun u _ => u = .bool gd) rfl rfl (fun w' hw' _ => ?_) (fun u hu => ?_)
                · go_simp; exact call_grow (HGm.out w' (LM2.out.trans hw'.le))
                obtain ⟨_, _, rfl⟩ := hu
                simp only [Act.put, List.setIfInBounds_toArray, List.set_cons_zero, List.set_cons_succ]
                repeat (first | (refine wpG_one rfl rfl rfl ?_; intro K hK; go_big_quiet_op; go_big_quiet_on) | (refine wpG_skip rfl ?_; simp only [Act.put, List.setIfInBounds_toArray, List.set_cons_zero, List.set_cons_succ]))
                refine wpG_nil (fun w5 hw5 _ => ?_)
                have LX : Hid (Le wr w5) := hw5.le
                clear hw5 y0 y1 y2 y3 z1
                go_wp2_with fail
                go_meet
                case rel => exact ⟨by rw [hff.out], LX.out⟩
            · have hd : decide ((m : Int) < (N : Int)) = false := decide_eq_false (by omega)
              have hff : Hid ((decide (m < N) && f m) = false) := by show _ = _; rw [decide_eq_false hmN]; rfl
              have y0 := ovr_cell x0
              have y1 := ovr_cell x1
              have y2 := ovr_cell x2
              have y3 := ovr_cell x3
              obtain ⟨j, hj⟩ : ∃ j : Nat, j = 0 := ⟨_, rfl⟩
              obtain ⟨t1, ht1⟩ : ∃ t1 : Bool, t1 = true := ⟨_, rfl⟩
              obtain ⟨t2, ht2⟩ : ∃ t2 : Bool, t2 = true := ⟨_, rfl⟩
              obtain ⟨gd, hgd⟩ : ∃ gd : Bool, gd = true := ⟨_, rfl⟩
              clear x0 x1 x2 x3 hj ht1 ht2 hgd
              refine wp_region_make (fun j' => if j' = 8 then some (fun u _ => u = I j) else if j' = 17 then some (fun u _ => u = .bool t1) else if j' = 23 then some (fun u _ => u = .bool t2) else if j' = 27 then some (fun u _ => u = .agg (ia 117 p)) else if j' = 30 then some (fun u _ => u = .bool gd) else none) (by kernel_rfl) (by kernel_rfl) (by kernel_rfl) ?_
              repeat (first | (refine wpG_one rfl rfl rfl ?_; intro K hK; go_big_quiet_op; go_big_quiet_on) | (refine wpG_skip rfl ?_; simp only [Act.put, List.setIfInBounds_toArray, List.set_cons_zero, List.set_cons_succ]))
              refine wpG_nil (fun w5 hw5 _ => ?_)
              have LX : Hid (Le wr w5) := hw5.le
              clear hw5 y0 y1 y2 y3
              go_wp2_with fail
              go_meet
              case rel => exact ⟨by rw [hff.out], LX.out⟩
          case rest =>
            obtain ⟨rfl, hcx⟩ := hcut
            have LX : Hid (Le wr wc) := hcx
            clear hcx
            rcases hb : (decide (m < N) && f m) with _ | _
            case true =>
              rw [Bool.and_eq_true, decide_eq_true_eq] at hb
              have hmN := hb.1
              have Hf := Lib.hid hb.2
              have HallN : Hid (∀ i, k ≤ i → i < m + 1 → f i = true) := fun i h1 h2 => by
                rcases Nat.lt_or_ge i m with hl | hl
                · exact Hall.out i h1 hl
                · obtain rfl : i = m := by omega
                  exact Hf.out
              have LN := Lib.hid (HBX.out.trans LX.out)
              clear hb
              go_wp2_with fail
              go_roundw
              case rel => exact ⟨m + 1, by omega, by omega, by go_num, HallN.out, LN.out⟩
              case measure => simp [intOf]; omega
            have hend : Hid (m = N ∨ (m < N ∧ f m = false)) := by
              show _ ∨ _
              rcases Nat.lt_or_ge m N with hl | hl
              · right
                refine ⟨hl, ?_⟩
                rw [decide_eq_true hl] at hb
                simpa using hb
              · left; omega
            clear hb
            have LC7 : Hid (Le W7 wc) := LM7.out.trans LX.out
            have LC2 : Hid (Le W2 wc) := LM2.out.trans LX.out
            have HownC : Hid (SoE 23 W7.heap.size (soldK p R (rnK f (min k N)).1) u5 wc) := Hown.out.below (HBX.out.trans LX.out)
            have hrun : Hid (soldK p R (rnK f m).1 = soldK p R (rnK f (min k N)).1 ++ (if k < m ∧ placeR R k < min (placeR R m) mo then [⟨placeR R k, min (placeR R m) mo⟩] else [])) := by
              show _ = _
              rw [← HMo.out]
              rw [Nat.min_eq_left (show k ≤ N by omega)]
              exact soldK_run (Hop.out (by omega)) hm1 Hall.out
            have hnext : Hid (soldK p R (rnK f (min (m + 1) N)).1 = soldK p R (rnK f m).1 ∧ (m + 1 ≤ N → (rnK f (m + 1)).2 = false)) := by
              show _ ∧ _
              rcases hend.out with he | ⟨he1, he2⟩
              · rw [he, Nat.min_eq_right (by omega)]
                exact ⟨rfl, fun h => by omega⟩
              · rw [Nat.min_eq_left (by omega), rnK_no he2]
                exact ⟨rfl, fun _ => rfl⟩
            have HP1 : Hid (∀ W, Le W2 W → Calls Try.prog 52 #[runV A1 A2 A3 c1 c2 c3 R, I k] W fun e w' => e = .returned (I (placeR R k)) ∧ Below W.heap.size W w') := fun W hW => refPlace_any A1 A2 A3 c1 c2 c3 R k W (HRun.out W hW) Hv.out (by omega) (by omega)
            have HP2 : Hid (∀ W, Le W2 W → Calls Try.prog 52 #[runV A1 A2 A3 c1 c2 c3 R, I m] W fun e w' => e = .returned (I (placeR R m)) ∧ Below W.heap.size W w') := fun W hW => refPlace_any A1 A2 A3 c1 c2 c3 R m W (HRun.out W hW) Hv.out (by omega) (by omega)
            generalize placeR R (k : Int) = q1 at *
            generalize placeR R (m : Int) = q2 at *
            generalize soldK p R (rnK f m).1 = lm at *
            generalize soldK p R (rnK f (min k N)).1 = lk at *
            obtain ⟨x0, x1, x2, x3⟩ := HC.out _ LC2.out
            have y0 := ovr_cell x0
            have y1 := ovr_cell x1
            have y2 := ovr_cell x2
            have y3 := ovr_cell x3
            clear x0 x1 x2 x3
            go_wp2_with fail
            refine wp_region_make_last (fun j => if j = 2 then some (fun u _ => u = I q1) else if j = 5 then some (fun u _ => u = I q2) else if j = 9 then some (NewAt wc #[I 0, I 0] 23) else none) (by kernel_rfl) (by kernel_rfl) (by kernel_rfl) (by kernel_rfl) rfl ?_
            simp only [skipLast_two, skipLast_one, lastOf_two, lastOf_one]
            repeat (refine wpG_one rfl rfl rfl ?_; intro K hK; go_big_quiet_op; go_big_quiet_on)
            refine wpG_make (fun u _ => u = I q1) rfl rfl (fun w' hw' _ => ?_) (fun u hu => ?_)
            · go_simp; exact call_grow (HP1.out w' (LC2.out.trans hw'.le))
            obtain ⟨_, _, rfl⟩ := hu
            simp only [Act.put, List.setIfInBounds_toArray, List.set_cons_zero, List.set_cons_succ]
            repeat (refine wpG_one rfl rfl rfl ?_; intro K hK; go_big_quiet_op; go_big_quiet_on)
            refine wpG_make (fun u _ => u = I q2) rfl rfl (fun w' hw' _ => ?_) (fun u hu => ?_)
            · go_simp; exact call_grow (HP2.out w' (LC2.out.trans hw'.le))
            obtain ⟨_, _, rfl⟩ := hu
            simp only [Act.put, List.setIfInBounds_toArray, List.set_cons_zero, List.set_cons_succ]
            repeat (refine wpG_one rfl rfl rfl ?_; intro K hK; go_big_quiet_op; go_big_quiet_on)
            refine wpG_make (NewAt wc #[I 0, I 0] 23) rfl rfl (fun w' hw' _ => ?_) (fun u hu => ?_)
            · go_simp
              exact new_grow hw'
            obtain ⟨_, _, xb, rfl, _, hxb⟩ := hu
            simp only [Act.put, List.setIfInBounds_toArray, List.set_cons_zero, List.set_cons_succ]
            repeat (refine wpG_one rfl rfl rfl ?_; intro K hK; go_big_quiet_op; go_big_quiet_on)
            refine wpG_nil (fun w5 hw5 hG => ?_)
            have hx5 := (Box.now hG.2).at.1
            clear hG
            refine wp_store_row 23 _ _ rfl xb rfl _ _ hx5 #[I q1, I (min q2 mo)] ?hy (two2 _ _) rfl (by kernel_rfl) ?_
            case hy => (simp [Act.eval]; split <;> omega)
            obtain ⟨mn, hmn⟩ : ∃ mn, min q2 mo = mn := ⟨_, rfl⟩
            rw [hmn] at hrun ⊢
            clear hmn
            have c0 : (w5.setRow xb #[I q1, I mn]).cell? ⟨xb, 0, none⟩ = some (I q1) := by rw [cell_of_row _ _ _ _ _ _ (setRow_same hx5)]; rfl
            have c1' : (w5.setRow xb #[I q1, I mn]).cell? ⟨xb, 1, none⟩ = some (I mn) := by rw [cell_of_row _ _ _ _ _ _ (setRow_same hx5)]; rfl
            have ho5 : Hid (SoE 23 W7.heap.size lk u5 (w5.setRow xb #[I q1, I mn])) := by
              refine SoE.over (w := wc) HownC.out (fun g hg => ?_)
              rw [setRow_other (by omega)]; exact hw5.le.block g hg
            have hbA : Hid (Le W7 (w5.setRow xb #[I q1, I mn])) := below_setRow (LC7.out.trans hw5.le) (by have := Below.size LC7.out; omega) _
            generalize w5.setRow xb #[I q1, I mn] = WA at *
            clear hx5 hw5 y0 y1 y2 y3 HownC HP1 HP2
            have hzA : W2.heap.size ≤ WA.heap.size := Below.size (L7.out.trans hbA.out)
            have hN6 : (N : Int) ≤ 100000 := by omega
            by_cases hkm : k < m
            · by_cases hlt2 : q1 < mn
              · have hs2 : Hid (soldK p R (rnK f (min (m + 1) N)).1 = lk ++ [⟨q1, mn⟩]) := by show _ = _; rw [hnext.out.1, hrun.out, if_pos ⟨hkm, hlt2⟩]
                have hrc := Lib.hid (rc_app lk ⟨q1, mn⟩)
                have hzA7 := Below.size hbA.out
                go_wp2_with (at_builtin; go_loud ((refine app_soe _ rfl _ _ 68 rfl 23 i0 _ 16 Try.underlying68 hi0 iz0 iz1 iz2 rfl (B := W7.heap.size) (l := lk) (v := u5) rfl (ho5.out.below ((Below.refl _ _).alloc (Nat.le_refl _) _)) ⟨WA.heap.size, 0, none⟩ 1 ⟨q1, mn⟩ rfl (news_lit (cs := #[I q1, I mn]) (heap_last _ _ _ rfl)) ?hba (Nat.le_trans hlenk (by decide)) (by decide) ?_)))
                case hba => first | omega | (simp; omega)
                all_goals
                  intro v' wB own3 hg2
                  have hB3 : Hid (Le W7 wB) := (hbA.out.alloc (Below.size hbA.out) _).trans hg2
                  have Own3 := Lib.hid own3
                  clear own3 hg2 ho5 hbA hrc HBX
                  go_wp2_with fail
                  go_roundw
                  case rel => exact ⟨m + 1, by omega, by go_num, hnext.out.2, by rw [hs2.out]; exact Own3.out, hB3.out⟩
                  case measure => simp [intOf]; omega
              · have hs2 : Hid (soldK p R (rnK f (min (m + 1) N)).1 = lk) := by show _ = _; rw [hnext.out.1, hrun.out, if_neg (fun h => hlt2 h.2), List.append_nil]
                clear HBX
                go_wp2_with fail
                go_roundw
                case rel => exact ⟨m + 1, by omega, by go_num, hnext.out.2, by rw [hs2.out]; exact ho5.out, hbA.out⟩
                case measure => simp [intOf]; omega
            · have hs2 : Hid (soldK p R (rnK f (min (m + 1) N)).1 = lk) := by show _ = _; rw [hnext.out.1, hrun.out, if_neg (fun h => hkm h.1), List.append_nil]
              clear HBX
              go_wp2_with fail
              go_roundw
              case rel => exact ⟨m + 1, by omega, by go_num, hnext.out.2, by rw [hs2.out]; exact ho5.out, hbA.out⟩
              case measure => simp [intOf]; omega
      · have hkN : min k N = N := by omega
        rw [hkN] at Hown
        obtain ⟨A, c, rfl, hr⟩ := Hown.out.rd
        have Hr := Lib.hid hr
        clear hr Hown
        go_wp2_with fail
        go_ret
        rw [HfN.out]
        exact ⟨A, _, c, rfl, rfl, Hr.out, T.out.up _ (L7.out.trans HL.out)⟩
end Go.Proofs.Ytlebefopdnadaaa
