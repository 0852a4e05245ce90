/- The walk of the iterator over the balances of some points, of package finish. -/
import Derived.Test.YtliolnfcgaflcaaGreatFim
namespace Go.Proofs.YtliolnfcgaflcaaGreat.Un
open Go.RowKit
attribute [local go_sem] Oper.semAt_some
theorem wpListIn_load_row9 {F : Fence} {n : Nat} {P : Program} {ops : Array Oper} {rest : List Oper} {o : Oper} {a : Act} {w : World} {Q : Exit → Act → World → Prop} (hgd : Region.wanted o (yielded ops a.tmps) = true) (ty : TypeId) (x : Operand) (ho : o.op = .load ty x)
 (g : Nat) (hx : a.eval x = .pointer (some ⟨g, 0, none⟩)) (cs : Array Value) (t : TypeId) (fr : Nat × Nat) (d : TypeDesc) (hg : w.heap[g]? = some (.cells cs t fr))
 (hu : P.underlying ty = some d) (hd : (match d with | .struct _ | .array _ _ => true | _ => false) = true) (hi : (P.info? ty).map (·.size) = some cs.size)
 (h : wpListIn F n P ops Q rest (a.put o.dst (.agg cs)) w) : wpListIn F n P ops Q (o :: rest) a w := by
 refine wpListIn_step fun K hK => ?_
 rw [if_pos hgd]
 have hrun := run_loadVar_row (P := P) w g t ty cs fr d hg hu hd hi
 unfold Oper.wpIn
 refine ⟨by simp [Oper.about, ho], ?_⟩
 rw [Oper.semAt_plain F _ _ (by rw [ho]; intro c hc'; cases hc')]
 simp only [execOp, ho, hx, Instr.loadAt, Instr.sureAddr, Sem.run_bind, Sem.run_pure, Result.andThen_ok, hrun]
 exact hK _ _ h
theorem ixw (a b c d : Value) (w : World) : (Instr.index 98 (.agg #[a, b, c, d]) (.int .i64 0)).run Tryz.prog w = .ok a w ∧ (Instr.index 98 (.agg #[a, b, c, d]) (.int .i64 1)).run Tryz.prog w = .ok b w ∧ (Instr.index 98 (.agg #[a, b, c, d]) (.int .i64 2)).run Tryz.prog w = .ok c w ∧ (Instr.index 98 (.agg #[a, b, c, d]) (.int .i64 3)).run Tryz.prog w = .ok d w :=
 ⟨by kernel_rfl, by kernel_rfl, by kernel_rfl, by kernel_rfl⟩
theorem name_roundsIn {F : Fence} {m : Nat} {P : Program} {c : Code} {Q : Exit → Act → World → Prop} {n : Nat} {a : Act} {w : World} (h : ∀ V, V = w → Code.roundsIn F m P c Q n a V) : Code.roundsIn F m P c Q n a w := h w rfl
set_option maxRecDepth 100000 in
set_option maxHeartbeats 8000000 in
theorem balances1_in (l : List Pt) (A : Option Addr) (c Bn B lab n₀ N : Nat) (X : Nat → Prop) (hN : 2 ≤ N) (hX : ∀ k, X k → k < n₀) (hl : ∀ q ∈ l, InG q) (hlen : l.length ≤ 36) (hc : l.length ≤ c ∧ c ≤ maxLen) (hBn : Bn < n₀ ∧ ¬ X Bn) (hB : B ≤ n₀ ∧ ∀ k, k < B → ¬ X k)
 (J Jx : List (Pl9 (bals l).length) → World → Prop) (W : World) (hJ : AbidesFrom W.heap.size J) (hn₀ : n₀ ≤ W.heap.size)
 (hY : ∀ (k : Nat) (h : k < (bals l).length) W1, J (fwd9 (bals l).length k) W1 → YieldAt Fence.wide (N - 1) Tryz.prog lab #[.agg (balA (bals l)[k])] W1 fun e W' =>
  (e = .returned (.bool true) ∧ J (fwd9 (bals l).length k ++ [⟨k, h⟩]) W' ∧ KpW n₀ X W1 W') ∨ (e = .returned (.bool false) ∧ Jx (fwd9 (bals l).length k ++ [⟨k, h⟩]) W'))
 (hw : W.cell? ⟨Bn, 0, none⟩ = some (.slice A l.length c)) (hx : Rd W B 3 A l.length (rP l)) (h0 : J [] W) :
 CallsIn Fence.wide N Tryz.prog 83 #[.func (.yield lab) #[] #[], .pointer (some ⟨Bn, 0, none⟩)] W fun e W' => (∃ v, e = .returned v) ∧
  ((∃ ys, ys = fwd9 (bals l).length (bals l).length ∧ J ys W') ∨ (∃ pre, True ∧ Jx pre W')) := by
 have HIN : Hid (∀ V, KpW n₀ X W V → V.cell? ⟨Bn, 0, none⟩ = some (.slice A l.length c) ∧ Rd V B 3 A l.length (rP l)) := fun V h => ⟨h.cell hw hBn, h.rd hx hB⟩
 have HJ := Lib.hid hJ
 have HJB : Hid (∀ ys V V', J ys V → KpW n₀ X W V → Below V.heap.size V V' → J ys V') := fun ys V V' h hk hb => hJ _ V V' none h ⟨hb.os, hb.tape, hb.output, hb.size, fun j hj _ => hb.block j hj⟩ (fun r e => by cases e)
 have HY := Lib.hid hY
 have H0 := Lib.hid h0
 have HL := Lib.hid hl
 have HC := Lib.hid hc
 have HLE := Lib.hid hlen
 have HXN : Hid (∀ k, W.heap.size ≤ k → ¬ X k) := fun k hk hxk => by have := hX k hxk; omega
 have y0 := ovr_cell hw
 clear hw hJ hY h0 hl hc hx hX hBn hB
 refine callsIn_of_wp Tryz.func83 rfl trivial ?_ rfl
 simp only [Tryz.ntmps83, List.size_toArray, List.length_cons, List.length_nil, Nat.reduceAdd, Nat.reduceSub, Array.replicate_succ, Array.replicate_zero, List.push_toArray, List.append_toArray, List.nil_append, List.cons_append]
 have hF := Wd.wide
 obtain ⟨u0, hu0⟩ := ovr_self W
 rw [hu0]
 have HKU : Hid (KpW n₀ X W (ovr W u0)) := KpW.of_below (ovr_below W u0)
 have HJU : Hid (J [] (ovr W u0)) := HJB.out _ W _ H0.out (KpW.refl W) (ovr_below W u0)
 clear hu0
 gi_wp2
 clear y0
 gi_loopw [16] (fun iv wr => ∃ (i e : Nat), i ≤ l.length ∧ iv = .int .i64 i ∧ (bals l).drop e = bals (l.drop i) ∧ e ≤ (bals l).length ∧ J (fwd9 (bals l).length e) wr ∧ KpW n₀ X W wr) (fun iv _ => l.length - (intOf iv).toNat)
 case atStart => exact ⟨0, 0, Nat.zero_le _, rfl, by simp, Nat.zero_le _, HJU.out, HKU.out⟩
 case round =>
  obtain ⟨i, e, hi, rfl, he, hel, hj, hk⟩ := hrel
  rename World => Y
  have HJK := Lib.hid hj
  have HKY := Lib.hid hk
  have HE : Hid ((bals l).drop e = bals (l.drop i) ∧ e ≤ (bals l).length) := ⟨he, hel⟩
  clear hj hk he hel
  by_cases hlt : i < l.length
  case neg =>
   obtain rfl : i = l.length := by omega
   have HEE : Hid (e = (bals l).length) := by
        show _ = _
        have h1 := HE.out.1
        rw [rest_end (Nat.le_refl _)] at h1
        have h2 := List.drop_eq_nil_iff.1 h1
        have := HE.out.2
        omega
   have ki : decide ((l.length : Int) < (l.length : Int)) = false := decide_eq_false (by omega)
   clear hlt
   gi_wp2
   go_end0
   exact ⟨⟨_, rfl⟩, .inl ⟨_, rfl, by have h9 := HJK.out; rw [HEE.out] at h9; exact h9⟩⟩
  have HLT := Lib.hid hlt
  have hi36 : i ≤ 36 := by have := HLE.out; omega
  obtain ⟨cB, hrd⟩ := HIN.out Y HKY.out
  obtain ⟨ab, ao, rfl, _, e0, e1, e2⟩ := rd_pt hrd hlt
  change Y.cell? ⟨ab, ao + i * 3, none⟩ = some (I ((pt9 l i).at_ : Int)) at e0
  change Y.cell? ⟨ab, ao + i * 3 + 1, none⟩ = some (I (pt9 l i).x) at e1
  change Y.cell? ⟨ab, ao + i * 3 + 2, none⟩ = some (I (pt9 l i).y) at e2
  have HPI := Lib.hid (pt9_in HL.out hlt)
  obtain ⟨pi, hpi⟩ : ∃ p, pt9 l i = p := ⟨_, rfl⟩
  rw [hpi] at e0 e1 e2 HPI
  have z0 := ovr_cell e0
  have z1 := ovr_cell e1
  have z2 := ovr_cell e2
  have HPE := Lib.hid hpi
  have ki : decide ((i : Int) < (l.length : Int)) = true := decide_eq_true (by omega)
  clear e0 e1 e2 hrd cB hpi
  obtain ⟨v0, hv0⟩ := ovr_self Y
  rw [hv0]
  clear hv0
  gi_upto_region 3 with (fail)
  obtain ⟨q, hq⟩ : ∃ q, q = (ovr Y v0).heap.size := ⟨_, rfl⟩
  obtain ⟨Y1, hY1⟩ : ∃ V, V = (ovr Y v0).alloc (.cells (ptA pi) 96) := ⟨_, rfl⟩
  have hbY1 : Below Y.heap.size Y Y1 := by rw [hY1]; exact (ovr_below Y v0).alloc (ovr_below Y v0).size _
  have HY1 : Hid (J (fwd9 (bals l).length e) Y1 ∧ KpW n₀ X W Y1 ∧ Y1.heap[q]? = some (.cells (ptA pi) 96 (0, 0))) := by
   refine ⟨HJB.out _ Y Y1 HJK.out HKY.out hbY1, HKY.out.trans (KpW.of_below hbY1), ?_⟩
   rw [hY1]
   exact heap_last _ _ _ hq
  have HQX : Hid (W.heap.size ≤ q ∧ ¬ X q) := by
   have h9 : W.heap.size ≤ q := by rw [hq]; exact Nat.le_trans HKY.out.2 (ovr_below Y v0).size
   exact ⟨h9, HXN.out q h9⟩
  have HE1 : Hid ((bals l).drop e = rest1 l i (i + 1) ∧ e ≤ (bals l).length) := ⟨HE.out.1.trans (rest0_in HLT.out), HE.out.2⟩
  have HST : Hid (∀ e V V', (J (fwd9 (bals l).length e) V ∧ KpW n₀ X W V ∧ V.heap[q]? = some (.cells (ptA pi) 96 (0, 0))) → Below V.heap.size V V' → (J (fwd9 (bals l).length e) V' ∧ KpW n₀ X W V' ∧ V'.heap[q]? = some (.cells (ptA pi) 96 (0, 0)))) := fun e V V' h hb =>
   ⟨HJB.out _ V V' h.1 h.2.1 hb, h.2.1.trans (KpW.of_below hb), (hb.block _ (Array.getElem?_eq_some_iff.1 h.2.2).1).trans h.2.2⟩
  rw [← hq, ← hY1]
  clear hY1 hbY1 hq z0 z1 z2 HJK
  gi_wp2
  gi_loopw [5] (fun jv wr => ∃ (j e : Nat), j ≤ l.length ∧ jv = .int .i64 j ∧ (bals l).drop e = rest1 l i j ∧ e ≤ (bals l).length ∧ J (fwd9 (bals l).length e) wr ∧ KpW n₀ X W wr ∧ wr.heap[q]? = some (.cells (ptA pi) 96 (0, 0))) (fun jv _ => l.length - (intOf jv).toNat)
  case atStart => exact ⟨i + 1, e, HLT.out, rfl, HE1.out.1, HE1.out.2, HY1.out⟩
  case round =>
   obtain ⟨j, e', hj, rfl, he, hel, hjj, hk, hrq⟩ := hrel
   rename World => Z
   have HSZ : Hid (J (fwd9 (bals l).length e') Z ∧ KpW n₀ X W Z ∧ Z.heap[q]? = some (.cells (ptA pi) 96 (0, 0))) := ⟨hjj, hk, hrq⟩
   have HE2 : Hid ((bals l).drop e' = rest1 l i j ∧ e' ≤ (bals l).length) := ⟨he, hel⟩
   clear hjj hk hrq he hel
   have yz := ovr_cell (HIN.out Z HSZ.out.2.1).1
   obtain ⟨v1, hv1⟩ := ovr_self Z
   rw [hv1]
   have HSV : Hid (J (fwd9 (bals l).length e') (ovr Z v1) ∧ KpW n₀ X W (ovr Z v1) ∧ (ovr Z v1).heap[q]? = some (.cells (ptA pi) 96 (0, 0))) := HST.out _ Z _ HSZ.out (ovr_below Z v1)
   clear hv1
   by_cases hjl : j < l.length
   case neg =>
        obtain rfl : j = l.length := by omega
        have kj : decide ((l.length : Int) < (l.length : Int)) = false := decide_eq_false (by omega)
        have HNX : Hid ((bals l).drop e' = bals (l.drop (i + 1))) := HE2.out.1.trans (rest1_end (Nat.le_refl _))
        have hl36 := HLE.out
        clear hjl hj
        gi_wp2
        go_roundw
        case rel => exact ⟨i + 1, e', HLT.out, by go_num, HNX.out, HE2.out.2, HSV.out.1, HSV.out.2.1⟩
        case measure => have := HLT.out; simp [intOf]; omega
   have HJL := Lib.hid hjl
   have hj36 : j ≤ 36 := by have := HLE.out; omega
   have kj : decide ((j : Int) < (l.length : Int)) = true := decide_eq_true (by omega)
   have HE3 : Hid ((bals l).drop e' = rest2 l i j (j + 1) ∧ e' ≤ (bals l).length) := ⟨HE2.out.1.trans (rest1_in hjl), HE2.out.2⟩
   gi_wp2
   gi_loopw [6] (fun kv wr => ∃ (k e : Nat), k ≤ l.length ∧ kv = .int .i64 k ∧ (bals l).drop e = rest2 l i j k ∧ e ≤ (bals l).length ∧ J (fwd9 (bals l).length e) wr ∧ KpW n₀ X W wr ∧ wr.heap[q]? = some (.cells (ptA pi) 96 (0, 0))) (fun kv _ => l.length - (intOf kv).toNat)
   case atStart => exact ⟨j + 1, e', HJL.out, rfl, HE3.out.1, HE3.out.2, HSV.out⟩
   case round =>
        obtain ⟨k, e3, hk3, rfl, he, hel, hjj, hk, hrq⟩ := hrel
        rename World => V
        have HSV3 : Hid (J (fwd9 (bals l).length e3) V ∧ KpW n₀ X W V ∧ V.heap[q]? = some (.cells (ptA pi) 96 (0, 0))) := ⟨hjj, hk, hrq⟩
        have HE4 : Hid ((bals l).drop e3 = rest2 l i j k ∧ e3 ≤ (bals l).length) := ⟨he, hel⟩
        clear hjj hk hrq he hel yz
        have yz := ovr_cell (HIN.out V HSV3.out.2.1).1
        obtain ⟨v2, hv2⟩ := ovr_self V
        rw [hv2]
        have HSV4 : Hid (J (fwd9 (bals l).length e3) (ovr V v2) ∧ KpW n₀ X W (ovr V v2) ∧ (ovr V v2).heap[q]? = some (.cells (ptA pi) 96 (0, 0))) := HST.out _ V _ HSV3.out (ovr_below V v2)
        clear hv2
        by_cases hkl : k < l.length
        case neg =>
         obtain rfl : k = l.length := by omega
         have kk : decide ((l.length : Int) < (l.length : Int)) = false := decide_eq_false (by omega)
         have HNX : Hid ((bals l).drop e3 = rest1 l i (j + 1)) := HE4.out.1.trans (rest2_end (Nat.le_refl _))
         have hl36 := HLE.out
         clear hkl hk3
         gi_wp2
         go_roundw
         case rel => exact ⟨j + 1, e3, HJL.out, by go_num, HNX.out, HE4.out.2, HSV4.out⟩
         case measure => have := HJL.out; simp [intOf]; omega
        have HKL := Lib.hid hkl
        have hk36 : k ≤ 36 := by have := HLE.out; omega
        have kk : decide ((k : Int) < (l.length : Int)) = true := decide_eq_true (by omega)
        have HE5 : Hid ((bals l).drop e3 = rest3 l i j k (k + 1) ∧ e3 ≤ (bals l).length) := ⟨HE4.out.1.trans (rest2_in hkl), HE4.out.2⟩
        have n1 : IntKind.i64.wrap ((k : Int) + 1) = (k : Int) + 1 := IntWalk.i64_in _ (by omega)
        have n2 : (0 : Int) ≤ (k : Int) + 1 := by omega
        have n3 : ((k : Int) + 1).toNat = k + 1 := by omega
        have n4 : (k : Int) + 1 ≤ (l.length : Int) := by omega
        have n5 : (l.length : Int) ≤ (c : Int) := by have := HC.out; omega
        by_cases hck : c = k + 1
        case pos =>
         subst hck
         have hl1 : l.length = k + 1 := by have := HC.out.1; have := HKL.out; omega
         have kz : decide ((0 : Int) < ((l.length - (k + 1) : Nat) : Int)) = false := decide_eq_false (by omega)
         have kz2 : decide (0 < l.length - (k + 1)) = false := decide_eq_false (by omega)
         have HNX : Hid ((bals l).drop e3 = rest2 l i j (k + 1)) := HE5.out.1.trans (rest3_end (by omega))
         have HL1 : Hid (k + 1 ≤ l.length) := by show _ ≤ _; omega
         have kz3 : ¬ (k + 1 < l.length) := by omega
         clear hl1
         gi_wp2
         refine wpIn_loop_rounds 1 ?_
         rw [roundsIn_succ]
         gi_wp2
         go_roundw
         case rel => exact ⟨k + 1, e3, HL1.out, by go_num, HNX.out, HE5.out.2, HSV4.out⟩
         case measure => have := HKL.out; simp [intOf]; omega
        case neg =>
         gi_wp2
         clear hck
         clear yz
         gi_loopw [42] (fun mv wr => ∃ (m e : Nat), m ≤ l.length - (k + 1) ∧ mv = .int .i64 m ∧ (bals l).drop e = rest3 l i j k (k + 1 + m) ∧ e ≤ (bals l).length ∧ J (fwd9 (bals l).length e) wr ∧ KpW n₀ X W wr ∧ wr.heap[q]? = some (.cells (ptA pi) 96 (0, 0))) (fun mv _ => l.length - (k + 1) - (intOf mv).toNat)
         case atStart => exact ⟨0, e3, Nat.zero_le _, rfl, HE5.out.1, HE5.out.2, HSV4.out⟩
         case round =>
          obtain ⟨m, e4, hm, rfl, he, hel, hjj, hk, hrq⟩ := hrel
          rename World => T
          have HST4 : Hid (J (fwd9 (bals l).length e4) T ∧ KpW n₀ X W T ∧ T.heap[q]? = some (.cells (ptA pi) 96 (0, 0))) := ⟨hjj, hk, hrq⟩
          have HE6 : Hid ((bals l).drop e4 = rest3 l i j k (k + 1 + m) ∧ e4 ≤ (bals l).length) := ⟨he, hel⟩
          clear hjj hk hrq he hel
          by_cases hml : m < l.length - (k + 1)
          case neg =>
           have km : decide ((m : Int) < ((l.length - (k + 1) : Nat) : Int)) = false := decide_eq_false (by omega)
           have km2 : decide (m < l.length - (k + 1)) = false := decide_eq_false (by omega)
           have HNX : Hid ((bals l).drop e4 = rest2 l i j (k + 1)) := HE6.out.1.trans (rest3_end (by omega))
           have hl36 := HLE.out
           clear hml hm
           gi_wp2
           go_roundw
           case rel => exact ⟨k + 1, e4, HKL.out, by go_num, HNX.out, HE6.out.2, HST4.out⟩
           case measure => have := HKL.out; simp [intOf]; omega
          have HMK : Hid (m < l.length - (k + 1)) := hml
          have hmi : k + 1 + m < l.length := by omega
          have hm36 : m ≤ 36 := by have := HLE.out; omega
          have km : decide ((m : Int) < ((l.length - (k + 1) : Nat) : Int)) = true := decide_eq_true (by omega)
          have km2 : decide (m < l.length - (k + 1)) = true := decide_eq_true hml
          obtain ⟨b', o', hbo, _, e0, e1, e2⟩ := rd_pt (HIN.out T HST4.out.2.1).2 hmi
          obtain ⟨rfl, rfl⟩ : b' = ab ∧ o' = ao := by
           injection hbo with hbo
           injection hbo with h1 h2
           exact ⟨h1.symm, h2.symm⟩
          have emi : o' + (k + 1 + m) * 3 = o' + (k + 1) * 3 + m * 3 := by omega
          rw [emi] at e0 e1 e2
          change T.cell? ⟨b', o' + (k + 1) * 3 + m * 3, none⟩ = some (I ((pt9 l (k + 1 + m)).at_ : Int)) at e0
          change T.cell? ⟨b', o' + (k + 1) * 3 + m * 3 + 1, none⟩ = some (I (pt9 l (k + 1 + m)).x) at e1
          change T.cell? ⟨b', o' + (k + 1) * 3 + m * 3 + 2, none⟩ = some (I (pt9 l (k + 1 + m)).y) at e2
          have HPD := Lib.hid (pt9_in HL.out hmi)
          have HE7 := Lib.hid (rest3_in (i := i) (j := j) (k := k) hmi)
          obtain ⟨pd, hpd⟩ : ∃ p, pt9 l (k + 1 + m) = p := ⟨_, rfl⟩
          rw [hpd] at e0 e1 e2 HPD HE7
          have z0 := ovr_cell e0
          have z1 := ovr_cell e1
          have z2 := ovr_cell e2
          clear e0 e1 e2 hpd hbo emi hml
          obtain ⟨v4, hv4⟩ := ovr_self T
          rw [hv4]
          clear hv4
          gi_upto_region 12 with (fail)
          obtain ⟨qd, hqd⟩ : ∃ q, q = (ovr T v4).heap.size := ⟨_, rfl⟩
          obtain ⟨T1, hT1⟩ : ∃ V, V = (ovr T v4).alloc (.cells (ptA pd) 96) := ⟨_, rfl⟩
          have hbT1 : Below T.heap.size T T1 := by rw [hT1]; exact (ovr_below T v4).alloc (ovr_below T v4).size _
          have hrd : T1.heap[qd]? = some (.cells (ptA pd) 96 (0, 0)) := by rw [hT1]; exact heap_last _ _ _ hqd
          have HT1 : Hid (Below T.heap.size T T1 ∧ T1.heap[qd]? = some (.cells (ptA pd) 96 (0, 0))) := ⟨hbT1, hrd⟩
          rw [← hqd, ← hT1]
          clear hT1 hqd z0 z1 z2 hbT1 hrd
          have HIT := Lib.hid (HIN.out T1 (HST4.out.2.1.trans (KpW.of_below HT1.out.1)))
          have yz := ovr_cell HIT.out.1
          obtain ⟨b2, o2, hbo, _, e0, e1, e2⟩ := rd_pt HIT.out.2 HJL.out
          obtain ⟨rfl, rfl⟩ : b2 = b' ∧ o2 = o' := by
           injection hbo with hbo
           injection hbo with h1 h2
           exact ⟨h1.symm, h2.symm⟩
          obtain ⟨b3, o3, hbo3, _, f0, f1, f2⟩ := rd_pt HIT.out.2 HKL.out
          obtain ⟨rfl, rfl⟩ : b3 = b2 ∧ o3 = o2 := by
           injection hbo3 with hbo
           injection hbo with h1 h2
           exact ⟨h1.symm, h2.symm⟩
          change T1.cell? ⟨b3, o3 + j * 3, none⟩ = some (I ((pt9 l j).at_ : Int)) at e0
          change T1.cell? ⟨b3, o3 + j * 3 + 1, none⟩ = some (I (pt9 l j).x) at e1
          change T1.cell? ⟨b3, o3 + j * 3 + 2, none⟩ = some (I (pt9 l j).y) at e2
          change T1.cell? ⟨b3, o3 + k * 3, none⟩ = some (I ((pt9 l k).at_ : Int)) at f0
          change T1.cell? ⟨b3, o3 + k * 3 + 1, none⟩ = some (I (pt9 l k).x) at f1
          change T1.cell? ⟨b3, o3 + k * 3 + 2, none⟩ = some (I (pt9 l k).y) at f2
          have HPJ := Lib.hid (pt9_in HL.out HJL.out)
          have HPK := Lib.hid (pt9_in HL.out HKL.out)
          obtain ⟨pj, hpj⟩ : ∃ p, pt9 l j = p := ⟨_, rfl⟩
          obtain ⟨pk, hpk⟩ : ∃ p, pt9 l k = p := ⟨_, rfl⟩
          rw [hpj] at e0 e1 e2 HPJ HE7
          rw [hpk] at f0 f1 f2 HPK HE7
          rw [HPE.out] at HE7
          have z0 := ovr_cell e0
          have z1 := ovr_cell e1
          have z2 := ovr_cell e2
          have z3 := ovr_cell f0
          have z4 := ovr_cell f1
          have z5 := ovr_cell f2
          have hjd : decide (j < l.length) = true := decide_eq_true HJL.out
          have hkd : decide (k < l.length) = true := decide_eq_true HKL.out
          clear e0 e1 e2 f0 f1 f2 hbo hbo3 hpj hpk HIT
          refine wpIn_wide.2 ?_
          refine Dl.wp_region_late 10 [4, 5, 6, 7] (fun t => if t = 8 then some (NewAt T1 #[I 0, I 0, I 0] 96) else if t = 9 then some (NewAt T1 #[I 0, I 0, I 0] 96) else none) (by kernel_rfl) (by kernel_rfl) (by kernel_rfl) (by kernel_rfl) [8, 9] (E := 96)
           ⟨by kernel_rfl, alloc_pt, fun t ht => by simp only [List.mem_cons, List.not_mem_nil, or_false] at ht; rcases ht with rfl | rfl <;> exact ⟨_, _, _, rfl⟩⟩ (by kernel_rfl) (fun t ht => by simp only [List.mem_cons, List.not_mem_nil, or_false] at ht; rcases ht with rfl | rfl | rfl | rfl <;> rfl) (fun c a d v w h => by cases d <;> exact h) ?_
          simp only [List.take_succ_cons, List.take_zero, List.drop_succ_cons, List.drop_zero]
          repeat (refine Dk.wpG_one rfl rfl rfl ?_; intro K hK; go_big_quiet_op; go_big_quiet_on)
          refine Dk.wpG_make (NewAt T1 #[I 0, I 0, I 0] 96) rfl rfl (fun w' hw' _ => ?_) (fun u hu => ?_)
          · go_simp
            exact new_grow hw'
          obtain ⟨_, _, PB, rfl, _, _⟩ := hu
          simp only [Act.put, List.setIfInBounds_toArray, List.set_cons_zero, List.set_cons_succ]
          refine Dk.wpG_new (NewAt T1 #[I 0, I 0, I 0] 96) rfl rfl (by simp) ⟨_, _, rfl, rfl, by simp⟩ (fun w' hw' _ => ?_) (fun u hu hne => ?_)
          · go_simp
            exact new_grow hw'
          obtain ⟨_, _, QB, rfl, _, _⟩ := hu
          have hpq := Dk.ptr_ne (hne 8 _ 9 (by omega) rfl (by simp) rfl (by simp))
          simp only [Act.put, List.setIfInBounds_toArray, List.set_cons_zero, List.set_cons_succ]
          refine Dk.wpG_nil (fun w5 hw5 hG => ?_)
          have hn1 := (Box.now hG.1.2).at
          have hn2 := (Box.now hG.2).at
          clear hG hne
          refine Dl.wpTailH_cons ?_
          refine wp_store_row 96 _ _ rfl PB rfl _ _ hn1.1 (ptA pj) rfl (by simp [Value.oneCell']) rfl (by kernel_rfl) ?_
          have hc1 := below_setRow hw5.le hn1.2 (ptA pj)
          refine ⟨Cl.of hc1, ?_⟩
          refine Dl.wpTailH_cons ?_
          refine wp_store_row 96 _ _ rfl QB rfl _ _ ((setRow_other (Ne.symm hpq)).trans hn2.1) (ptA pk) rfl (by simp [Value.oneCell']) rfl (by kernel_rfl) ?_
          have hc2 := below_setRow hc1 hn2.2 (ptA pk)
          refine ⟨Cl.of hc2, ?_⟩
          refine Dl.wpTailH_nil ?_
          simp only [Act.put]
          obtain ⟨T2, hT2⟩ : ∃ V, V = (w5.setRow PB (ptA pj)).setRow QB (ptA pk) := ⟨_, rfl⟩
          have rQ : T2.heap[QB]? = some (.cells (ptA pk) 96 (0, 0)) := by rw [hT2]; exact setRow_same ((setRow_other (Ne.symm hpq)).trans hn2.1)
          have rB : T2.heap[PB]? = some (.cells (ptA pj) 96 (0, 0)) := by rw [hT2, setRow_other hpq]; exact setRow_same hn1.1
          have hbT2 : Below T1.heap.size T1 T2 := by rw [hT2]; exact hc2
          rw [← hT2]
          clear hT2 hn1 hn2 hw5 hpq hc1 hc2 yz z0 z1 z2 z3 z4 z5
          have rD : T2.heap[qd]? = some (.cells (ptA pd) 96 (0, 0)) := (hbT2.block _ (Array.getElem?_eq_some_iff.1 HT1.out.2).1).trans HT1.out.2
          have HBT2 : Hid (Below T.heap.size T T2) := HT1.out.1.trans (hbT2.mono HT1.out.1.size)
          have rA : T2.heap[q]? = some (.cells (ptA pi) 96 (0, 0)) := (HST.out e4 T T2 HST4.out HBT2.out).2.2
          have a0 := cell_row9 rA (j := 0) rfl
          have a1 := cell_row9 rA (j := 1) rfl
          have a2 := cell_row9 rA (j := 2) rfl
          have b0 := cell_row9 rB (j := 0) rfl
          have b1 := cell_row9 rB (j := 1) rfl
          have b2 := cell_row9 rB (j := 2) rfl
          have c0 := cell_row9 rQ (j := 0) rfl
          have c1 := cell_row9 rQ (j := 1) rfl
          have c2 := cell_row9 rQ (j := 2) rfl
          have d0 := cell_row9 rD (j := 0) rfl
          have d1 := cell_row9 rD (j := 1) rfl
          have d2 := cell_row9 rD (j := 2) rfl
          have C0 := Lib.hid fun V => cross_any pj pk pd V HPJ.out HPK.out HPD.out
          have C1 := Lib.hid fun V => cross_any pi pk pd V HPI.out HPK.out HPD.out
          have C2 := Lib.hid fun V => cross_any pi pj pd V HPI.out HPJ.out HPD.out
          have C3 := Lib.hid fun V => cross_any pi pj pk V HPI.out HPJ.out HPK.out
          have HMB := Lib.hid (mkB_in HPI.out HPJ.out HPK.out HPD.out)
          have k1 : wrap64 (-crs pi pk pd) = -crs pi pk pd := by have := crs_bd HPI.out HPK.out HPD.out; unfold wrap64; omega
          have k3 : wrap64 (-crs pi pj pk) = -crs pi pj pk := by have := crs_bd HPI.out HPJ.out HPK.out; unfold wrap64; omega
          clear rA rB rQ rD hbT2
          gi_upto_region 13 with (fail)
          refine wpIn_wide.2 ?_
          refine wp_region_seq 26 (fun j => if j = 8 then some (fun u _ => u = I (crs pj pk pd)) else if j = 12 then some (fun u _ => u = I (crs pi pk pd)) else if j = 17 then some (fun u _ => u = I (crs pi pj pd)) else if j = 21 then some (fun u _ => u = I (crs pi pj pk)) else if j = 25 then some (NewAt T2 #[I 0, I 0, I 0, I 0, I 0, I 0, I 0, I 0, I 0, I 0, I 0, I 0, I 0, I 0, I 0, I 0, I 0] 100) else none) (by kernel_rfl) (by kernel_rfl) (by kernel_rfl) (by kernel_rfl) ?_
          simp only [List.take_succ_cons, List.take_zero, List.drop_succ_cons, List.drop_zero]
          repeat (first | (refine wpG_one rfl rfl rfl ?_; intro K hK; go_big_quiet_op; go_big_quiet_on) | (refine wpG_skip rfl ?_; simp only [Act.put, List.setIfInBounds_toArray, List.set_cons_zero, List.set_cons_succ]))
          refine wpG_make (fun u _ => u = I (crs pj pk pd)) rfl rfl (fun w' hw' hk => ?_) (fun u hu => ?_)
          · go_simp
            exact call_grow (C0.out w')
          obtain ⟨_, _, rfl⟩ := hu
          simp only [Act.put, List.setIfInBounds_toArray, List.set_cons_zero, List.set_cons_succ]
          repeat (first | (refine wpG_one rfl rfl rfl ?_; intro K hK; go_big_quiet_op; go_big_quiet_on) | (refine wpG_skip rfl ?_; simp only [Act.put, List.setIfInBounds_toArray, List.set_cons_zero, List.set_cons_succ]))
          refine wpG_make (fun u _ => u = I (crs pi pk pd)) rfl rfl (fun w' hw' hk => ?_) (fun u hu => ?_)
          · go_simp
            exact call_grow (C1.out w')
          obtain ⟨_, _, rfl⟩ := hu
          simp only [Act.put, List.setIfInBounds_toArray, List.set_cons_zero, List.set_cons_succ]
          repeat (first | (refine wpG_one rfl rfl rfl ?_; intro K hK; go_big_quiet_op; go_big_quiet_on) | (refine wpG_skip rfl ?_; simp only [Act.put, List.setIfInBounds_toArray, List.set_cons_zero, List.set_cons_succ]))
          refine wpG_make (fun u _ => u = I (crs pi pj pd)) rfl rfl (fun w' hw' hk => ?_) (fun u hu => ?_)
          · go_simp
            exact call_grow (C2.out w')
          obtain ⟨_, _, rfl⟩ := hu
          simp only [Act.put, List.setIfInBounds_toArray, List.set_cons_zero, List.set_cons_succ]
          repeat (first | (refine wpG_one rfl rfl rfl ?_; intro K hK; go_big_quiet_op; go_big_quiet_on) | (refine wpG_skip rfl ?_; simp only [Act.put, List.setIfInBounds_toArray, List.set_cons_zero, List.set_cons_succ]))
          refine wpG_make (fun u _ => u = I (crs pi pj pk)) rfl rfl (fun w' hw' hk => ?_) (fun u hu => ?_)
          · go_simp
            exact call_grow (C3.out w')
          obtain ⟨_, _, rfl⟩ := hu
          simp only [Act.put, List.setIfInBounds_toArray, List.set_cons_zero, List.set_cons_succ]
          repeat (first | (refine wpG_one rfl rfl rfl ?_; intro K hK; go_big_quiet_op; go_big_quiet_on) | (refine wpG_skip rfl ?_; simp only [Act.put, List.setIfInBounds_toArray, List.set_cons_zero, List.set_cons_succ]))
          refine wpG_make (NewAt T2 #[I 0, I 0, I 0, I 0, I 0, I 0, I 0, I 0, I 0, I 0, I 0, I 0, I 0, I 0, I 0, I 0, I 0] 100) rfl rfl (fun w' hw' hk => ?_) (fun u hu => ?_)
          · go_simp
            exact new_grow hw'
          obtain ⟨_, _, XB, rfl, _, _⟩ := hu
          simp only [Act.put, List.setIfInBounds_toArray, List.set_cons_zero, List.set_cons_succ]
          repeat (first | (refine wpG_one rfl rfl rfl ?_; intro K hK; go_big_quiet_op; go_big_quiet_on) | (refine wpG_skip rfl ?_; simp only [Act.put, List.setIfInBounds_toArray, List.set_cons_zero, List.set_cons_succ]))
          refine wpG_nil (fun w5 hw5 hG => ?_)
          have hx9 := (Box.now hG.2).at
          clear hG a0 a1 a2 b0 b1 b2 c0 c1 c2 d0 d1 d2 C0 C1 C2 C3
          obtain ⟨W0, hW0⟩ : ∃ z, crs pj pk pd = z := ⟨_, rfl⟩
          obtain ⟨W1, hW1⟩ : ∃ z, -crs pi pk pd = z := ⟨_, rfl⟩
          obtain ⟨W2, hW2⟩ : ∃ z, crs pi pj pd = z := ⟨_, rfl⟩
          obtain ⟨W3, hW3⟩ : ∃ z, -crs pi pj pk = z := ⟨_, rfl⟩
          have HM0 : Hid (mkB pi pj pk pd = ⟨pi, pj, pk, pd, W0, W1, W2, W3, Sz pi pj pk pd⟩) := by show _ = _; unfold mkB; rw [hW0, hW1, hW2, hW3]
          have HM1 : Hid (Sz pi pj pk pd = mxa W0 + mxa W1 + mxa W2 + mxa W3) := by show _ = _; unfold Sz; rw [hW0, hW1, hW2, hW3]
          have HWB : Hid ((-50 ≤ W0 ∧ W0 ≤ 50) ∧ (-50 ≤ W1 ∧ W1 ≤ 50) ∧ (-50 ≤ W2 ∧ W2 ≤ 50) ∧ (-50 ≤ W3 ∧ W3 ≤ 50)) := by
           have h9 := HMB.out
           rw [HM0.out] at h9
           exact ⟨h9.w0, h9.w1, h9.w2, h9.w3⟩
          rw [hW0, k1, hW1, hW2, k3, hW3]
          clear hW0 hW1 hW2 hW3 k1 k3
          refine wpTail_cons ?_
          refine wp_store_row 100 _ _ rfl XB rfl _ _ hx9.1 (balA ⟨pi, pj, pk, pd, W0, W1, W2, W3, 0⟩) rfl (by simp [Value.oneCell']) rfl (by kernel_rfl) ?_
          have hc3 := below_setRow hw5.le hx9.2 (balA ⟨pi, pj, pk, pd, W0, W1, W2, W3, 0⟩)
          refine wpTail_nil ?_
          simp only [Act.put]
          obtain ⟨T3, hT3⟩ : ∃ V, V = w5.setRow XB (balA ⟨pi, pj, pk, pd, W0, W1, W2, W3, 0⟩) := ⟨_, rfl⟩
          have rX : T3.heap[XB]? = some (.cells (balA ⟨pi, pj, pk, pd, W0, W1, W2, W3, 0⟩) 100 (0, 0)) := by rw [hT3]; exact setRow_same hx9.1
          have HB3 : Hid (Below T2.heap.size T2 T3 ∧ T2.heap.size ≤ XB) := by refine ⟨?_, hx9.2⟩; rw [hT3]; exact hc3
          rw [← hT3]
          clear hT3 hc3 hx9 hw5
          have x0 := cell_row9 rX (j := 12) rfl
          have x1 := cell_row9 rX (j := 13) rfl
          have x2 := cell_row9 rX (j := 14) rfl
          have x3 := cell_row9 rX (j := 15) rfl
          have x4 := cell_row9 rX (j := 16) rfl
          have xf : ∀ u, (ovr T3 u).frozen? ⟨XB, 16, none⟩ = false := fun u => frozen_of_row _ _ _ _ _ (ovr_row rX u)
          have HRX := Lib.hid (ovr_row rX)
          clear rX
          obtain ⟨v5, hv5⟩ := ovr_self T3
          rw [hv5]
          clear hv5
          have i0 := fun w => (ixw (I W0) (I W1) (I W2) (I W3) w).1
          have i1 := fun w => (ixw (I W0) (I W1) (I W2) (I W3) w).2.1
          have i2 := fun w => (ixw (I W0) (I W1) (I W2) (I W3) w).2.2.1
          have i3 := fun w => (ixw (I W0) (I W1) (I W2) (I W3) w).2.2.2
          have g0 : wrap64 (-W0) = -W0 := by have := HWB.out; unfold wrap64; omega
          have g1 : wrap64 (-W1) = -W1 := by have := HWB.out; unfold wrap64; omega
          have g2 : wrap64 (-W2) = -W2 := by have := HWB.out; unfold wrap64; omega
          have g3 : wrap64 (-W3) = -W3 := by have := HWB.out; unfold wrap64; omega
          have s0 : IntKind.i64.wrap (max W0 (-W0)) = max W0 (-W0) := IntWalk.i64_in _ (by have := HWB.out; omega)
          have s1 : IntKind.i64.wrap (max W0 (-W0) + max W1 (-W1)) = max W0 (-W0) + max W1 (-W1) := IntWalk.i64_in _ (by have := HWB.out; omega)
          have s2 : IntKind.i64.wrap (max W0 (-W0) + max W1 (-W1) + max W2 (-W2)) = max W0 (-W0) + max W1 (-W1) + max W2 (-W2) := IntWalk.i64_in _ (by have := HWB.out; omega)
          have s3 : IntKind.i64.wrap (max W0 (-W0) + max W1 (-W1) + max W2 (-W2) + max W3 (-W3)) = max W0 (-W0) + max W1 (-W1) + max W2 (-W2) + max W3 (-W3) := IntWalk.i64_in _ (by have := HWB.out; omega)
          gi_wp2
          refine wpIn_loop_rounds 5 ?_
          rw [roundsIn_succ]
          gi_wp2
          refine name_roundsIn fun T5 hT4 => ?_
          have hbN : Below T2.heap.size T2 T5 := by
           rw [hT4]
           exact sc_below (HB3.out.1.trans ((ovr_below T3 v5).mono HB3.out.1.size)) HB3.out.2 _ _
          have rX : T5.heap[XB]? = some (.cells (balA ⟨pi, pj, pk, pd, W0, W1, W2, W3, (max W0 (-W0))⟩) 100 (0, 0)) := by
           rw [hT4]
           exact rs (HRX.out v5) 16 _
          replace HB3 : Hid (Below T2.heap.size T2 T5 ∧ T2.heap.size ≤ XB) := ⟨hbN, HB3.out.2⟩
          clear hT4 hbN x4 xf HRX
          have x4 := cell_row9 rX (j := 16) rfl
          have xf : ∀ u, (ovr T5 u).frozen? ⟨XB, 16, none⟩ = false := fun u => frozen_of_row _ _ _ _ _ (ovr_row rX u)
          have HRX := Lib.hid (ovr_row rX)
          clear rX
          obtain ⟨v7, hv5⟩ := ovr_self T5
          rw [hv5]
          clear hv5
          rw [roundsIn_succ]
          gi_wp2
          refine name_roundsIn fun T6 hT4 => ?_
          have hbN : Below T2.heap.size T2 T6 := by
           rw [hT4]
           exact sc_below (HB3.out.1.trans ((ovr_below T5 v7).mono HB3.out.1.size)) HB3.out.2 _ _
          have rX : T6.heap[XB]? = some (.cells (balA ⟨pi, pj, pk, pd, W0, W1, W2, W3, (max W0 (-W0) + max W1 (-W1))⟩) 100 (0, 0)) := by
           rw [hT4]
           exact rs (HRX.out v7) 16 _
          replace HB3 : Hid (Below T2.heap.size T2 T6 ∧ T2.heap.size ≤ XB) := ⟨hbN, HB3.out.2⟩
          clear hT4 hbN x4 xf HRX
          have x4 := cell_row9 rX (j := 16) rfl
          have xf : ∀ u, (ovr T6 u).frozen? ⟨XB, 16, none⟩ = false := fun u => frozen_of_row _ _ _ _ _ (ovr_row rX u)
          have HRX := Lib.hid (ovr_row rX)
          clear rX
          obtain ⟨v8, hv5⟩ := ovr_self T6
          rw [hv5]
          clear hv5
          rw [roundsIn_succ]
          gi_wp2
          refine name_roundsIn fun T7 hT4 => ?_
          have hbN : Below T2.heap.size T2 T7 := by
           rw [hT4]
           exact sc_below (HB3.out.1.trans ((ovr_below T6 v8).mono HB3.out.1.size)) HB3.out.2 _ _
          have rX : T7.heap[XB]? = some (.cells (balA ⟨pi, pj, pk, pd, W0, W1, W2, W3, (max W0 (-W0) + max W1 (-W1) + max W2 (-W2))⟩) 100 (0, 0)) := by
           rw [hT4]
           exact rs (HRX.out v8) 16 _
          replace HB3 : Hid (Below T2.heap.size T2 T7 ∧ T2.heap.size ≤ XB) := ⟨hbN, HB3.out.2⟩
          clear hT4 hbN x4 xf HRX
          have x4 := cell_row9 rX (j := 16) rfl
          have xf : ∀ u, (ovr T7 u).frozen? ⟨XB, 16, none⟩ = false := fun u => frozen_of_row _ _ _ _ _ (ovr_row rX u)
          have HRX := Lib.hid (ovr_row rX)
          clear rX
          obtain ⟨v9, hv5⟩ := ovr_self T7
          rw [hv5]
          clear hv5
          rw [roundsIn_succ]
          gi_wp2
          refine name_roundsIn fun T4 hT4 => ?_
          have HB4 : Hid (Below T2.heap.size T2 T4) := by
           show Below _ _ _
           rw [hT4]
           exact sc_below (HB3.out.1.trans ((ovr_below T7 v9).mono HB3.out.1.size)) HB3.out.2 _ _
          have rX : T4.heap[XB]? = some (.cells (balA (mkB pi pj pk pd)) 100 (0, 0)) := by
           rw [hT4, HM0.out, HM1.out]
           exact rs (HRX.out v9) 16 _
          clear hT4 HRX i0 i1 i2 i3 g0 g1 g2 g3 s0 s1 s2 s3 x0 x1 x2 x3 x4 xf
          have x4 := cell_row9 rX (j := 16) (v := I (Sz pi pj pk pd)) rfl
          have HRX := Lib.hid (ovr_row rX)
          clear rX
          obtain ⟨v6, hv6⟩ := ovr_self T4
          rw [hv6]
          have HS4 : Hid (J (fwd9 (bals l).length e4) (ovr T4 v6) ∧ KpW n₀ X W (ovr T4 v6) ∧ (ovr T4 v6).heap[q]? = some (.cells (ptA pi) 96 (0, 0))) :=
           HST.out e4 T _ HST4.out ((HBT2.out.trans (HB4.out.mono HBT2.out.size)).trans ((ovr_below T4 v6).mono (Nat.le_trans HBT2.out.size HB4.out.size)))
          clear hv6
          rw [roundsIn_succ]
          by_cases hsz : 0 < Sz pi pj pk pd
          case neg =>
           have ksz : decide (0 < Sz pi pj pk pd) = false := decide_eq_false hsz
           have HNX : Hid ((bals l).drop e4 = rest3 l i j k (k + 1 + (m + 1))) := by
            show _ = _
            rw [HE6.out.1, HE7.out, if_neg hsz]
            rfl
           clear hsz
           gi_wp2_with (with_reducible show wpListIn _ _ _ _ _ _ _ _; refine wpListIn_skip rfl rfl ?_)
           go_roundw
           case rel => exact ⟨m + 1, e4, HMK.out, by go_num, HNX.out, HE6.out.2, HS4.out⟩
           case measure => have := HMK.out; simp [intOf]; omega
          have ksz : decide (0 < Sz pi pj pk pd) = true := decide_eq_true hsz
          rw [if_pos hsz] at HE7
          obtain ⟨hlt4, hat4, hdr4⟩ := drop_at (HE6.out.1.trans HE7.out)
          obtain ⟨fn, tmps, assign, body, hy, hR⟩ := HY.out e4 hlt4 (ovr T4 v6) HS4.out.1
          rw [hat4] at hy
          have HLT4 := Lib.hid hlt4
          have HD4 : Hid ((bals l).drop (e4 + 1) = rest3 l i j k (k + 1 + (m + 1))) := hdr4
          have HR := Lib.hid hR
          clear hat4 hdr4 hR hsz
          gi_wp2_with (with_reducible show wpListIn _ _ _ _ _ _ _ _; refine wpListIn_load_row9 rfl 100 _ rfl XB rfl (balA (mkB pi pj pk pd)) _ _ _ (HRX.out v6) Tryz.underlying100 rfl (by kernel_rfl) ?_)
          refine ⟨fun _ => by omega, HR.out.mono ?_⟩
          clear HR hy
          rintro e W9 (⟨rfl, hJ3, hk3⟩ | ⟨rfl, hJx3⟩)
          · have HJ3 : Hid (J (fwd9 (bals l).length (e4 + 1)) W9) := by show J _ _; rw [fwd9_succ HLT4.out]; exact hJ3
            have HK3 : Hid (KpW n₀ X W W9 ∧ W9.heap[q]? = some (.cells (ptA pi) 96 (0, 0))) := ⟨HS4.out.2.1.trans hk3, hk3.row HS4.out.2.2 HQX.out.2 (.inr rfl)⟩
            clear hJ3 hk3
            gi_wp2
            go_roundw
            case rel => exact ⟨m + 1, e4 + 1, HMK.out, by go_num, HD4.out, HLT4.out, HJ3.out, HK3.out⟩
            case measure => have := HMK.out; simp [intOf]; omega
          · gi_wp2
            (try simp only [Exit.inBlock, Exit.then])
            refine bodyPost_ret (results_none rfl _ _ _) rfl ?_
            exact ⟨⟨_, rfl⟩, .inr ⟨_, trivial, hJx3⟩⟩
theorem balances_stops (l : List Pt) (A : Option Addr) (c Bn B n₀ N : Nat) (X : Nat → Prop) (w : World) (hN : 2 ≤ N) (hX : ∀ k, X k → k < n₀) (hl : ∀ q ∈ l, InG q) (hlen : l.length ≤ 36) (hc : l.length ≤ c ∧ c ≤ maxLen) (hBn : Bn < n₀ ∧ ¬ X Bn) (hB : B ≤ n₀ ∧ ∀ k, k < B → ¬ X k) (hn₀ : n₀ ≤ w.heap.size)
 (hw : w.cell? ⟨Bn, 0, none⟩ = some (.slice A l.length c)) (hx : Rd w B 3 A l.length (rP l)) :
 SeqStopsK Fence.wide N Tryz.prog 83 #[.pointer (some ⟨Bn, 0, none⟩)] (fun x : Pl9 (bals l).length => #[.agg (balA (bals l)[x.1])]) (KpW n₀ X) (fun ys => ys = fwd9 (bals l).length (bals l).length) (fun _ => True) (bals l).length w := fun lab J Jx W hW hJ hJx hY h0 =>
 balances1_in l A c Bn B lab n₀ N X hN hX hl hlen hc hBn hB J Jx W hJ (Nat.le_trans hn₀ hW.size) (fun k h W1 hj => hY (fwd9 (bals l).length k) ⟨k, h⟩ W1 hj (by rw [fwd9_len (Nat.le_of_lt h)]; exact h))
  ((hW.cell (p := ⟨Bn, 0, none⟩) (Nat.lt_of_lt_of_le hBn.1 hn₀)).trans hw) (hx.below (hW.mono (Nat.le_trans hB.1 hn₀))) h0
end Go.Proofs.YtliolnfcgaflcaaGreat.Un
