/- The law PullChecks holds of every puller and run: the walk of the statement's function. -/
import Derived.Test.YtlebefopdnadaaaRr
import Derived.Test.YtlebefopdnadaaaKwa
namespace Go.Proofs.Ytlebefopdnadaaa
open Go.RowKit
/-- A run with lists of its own, wherever they lie. -/
def OwnF (R : Run) (u : Value) (w : World) : Prop := ∃ A1 A2 A3 c1 c2 c3, u = runV A1 A2 A3 c1 c2 c3 R ∧ RunIn w A1 A2 A3 R ∧ R.ms.length ≤ c2
theorem own_grow {P : Program} {f : FuncId} {args : Array Value} {w : World} {R : Run} (h : Calls P f args w (RetOwn w R)) : Calls P f args w fun e w' => ∃ u, e = .returned u ∧ Le w w' ∧ Box (OwnF R) u w' :=
  h.mono fun _ _ ⟨A1, A2, A3, c1, c2, c3, he, hr, hc, hb⟩ => ⟨_, he, hb, fun _ hl => ⟨A1, A2, A3, c1, c2, c3, rfl, ⟨(hr.s.below hl).more hl.size, (hr.m.below hl).more hl.size, (hr.e.below hl).more hl.size, hr.ls, hr.lm, hr.le⟩, hc⟩⟩
def Is (v u : Value) (_ : World) : Prop := u = v
theorem is_grow {P : Program} {f : FuncId} {args : Array Value} {w : World} {v : Value} (h : Calls P f args w fun e w' => e = .returned v ∧ Below w.heap.size w w') : Calls P f args w fun e w' => ∃ u, e = .returned u ∧ Le w w' ∧ Box (Is v) u w' :=
  h.mono fun _ _ ⟨he, hb⟩ => ⟨_, he, hb, fun _ _ => rfl⟩
theorem load_grow {w : World} {g : Nat} {p : Vec} {o : Oper} {a : Act} {x : Operand} (ho : o.op = .load 30 x) (hx : a.eval x = .pointer (some ⟨g, 0, none⟩)) (h : ∀ j, j < 117 → w.cell? ⟨g, 0 + j, none⟩ = some (I (p j))) : Oper.grows Try.prog o a w (fun u _ => u = .agg (ia 117 p)) := by
  unfold Oper.grows
  rw [load_ia_at ho hx (range_ia h)]
  exact ⟨Le.refl w, fun _ _ => rfl⟩
set_option maxRecDepth 100000 in
set_option maxHeartbeats 1000000 in
theorem pullChecks_any (p : Vec) (A1 A2 A3 : Option Addr) (c1 c2 c3 : Nat) (R : Run) (w : World) (h1 : Rd w w.heap.size 8 A1 R.ss.length (rS R.ss)) (h2 : Rd w w.heap.size 3 A2 R.ms.length (rM R.ms)) (h3 : Rd w w.heap.size 2 A3 R.es.length (rE R.es)) :
    Calls Try.prog 3 #[.agg (ia 117 p), runV A1 A2 A3 c1 c2 c3 R] w fun e w' => e = .returned (.bool true) ∧ Below w.heap.size w w' := by
  obtain ⟨W1, hW1⟩ : ∃ W1, W1 = (w.alloc (.cells (ia 117 p) 30)).alloc (.cells #[.slice A1 R.ss.length c1, I R.e, .slice A2 R.ms.length c2, .slice A3 R.es.length c3] 35) := ⟨_, rfl⟩
  have HU : Hid (∀ W, Below W1.heap.size W1 W → Below w.heap.size w W) := fun W hW => by rw [hW1] at hW; exact under2 (under2 hW)
  have y0 : W1.cell? ⟨w.heap.size + 1, 0, none⟩ = some (.slice A1 R.ss.length c1) := by rw [hW1]; simp
  have y1 : W1.cell? ⟨w.heap.size + 1, 1, none⟩ = some (I R.e) := by rw [hW1]; simp
  have y2 : W1.cell? ⟨w.heap.size + 1, 2, none⟩ = some (.slice A2 R.ms.length c2) := by rw [hW1]; simp
  have y3 : W1.cell? ⟨w.heap.size + 1, 3, none⟩ = some (.slice A3 R.es.length c3) := by rw [hW1]; simp
  have HP : Hid (∀ W, Below W1.heap.size W1 W → ∀ j, j < 117 → W.cell? ⟨w.heap.size, 0 + j, none⟩ = some (I (p j))) := fun W hW => ia_load (((Below.refl _ _).alloc (Nat.le_refl _) _).trans ((show Below (w.heap.size + 2) ((w.alloc (.cells (ia 117 p) 30)).alloc (.cells #[.slice A1 R.ss.length c1, I R.e, .slice A2 R.ms.length c2, .slice A3 R.es.length c3] 35)) W by rw [← hW1]; exact hW.mono (by rw [hW1]; simp)).mono (by simp)))
  by_cases hlen : R.ss.length ≤ 70 ∧ R.ms.length ≤ 110 ∧ R.es.length ≤ 30
  · obtain ⟨l1, l2, l3⟩ := hlen
    have hrun : RunIn W1 A1 A2 A3 R := by rw [hW1]; exact ((RunIn.mk h1 h2 h3 (by omega) (by omega) (by omega)).alloc _).alloc _
    have HW := Lib.hid hW1
    have Hrun := Lib.hid hrun
    have z0 := ovr_cell y0
    have z1 := ovr_cell y1
    have z2 := ovr_cell y2
    have z3 := ovr_cell y3
    clear hW1 hrun h1 h2 h3
    go_enter Try.func3, Try.ntmps3
    go_wp2_with fail
    rw [← HW.out]
    refine wp_region_make (fun j => if j = 0 then some (fun u _ => u = .agg (ia 117 p)) else if j = 1 then some (fun u _ => u = I (er (okPuller p))) else if j = 3 then some (OwnF R) else if j = 4 then some (fun u _ => u = I (er (okRun R))) else none) (by kernel_rfl) (by kernel_rfl) (by kernel_rfl) ?_
    refine wpG_make (fun u _ => u = .agg (ia 117 p)) rfl rfl (fun w' hw' _ => ?_) (fun u hu => ?_)
    · exact load_grow rfl rfl (HP.out w' hw'.le)
    obtain ⟨_, _, rfl⟩ := hu
    simp only [Act.put, List.setIfInBounds_toArray, List.set_cons_zero, List.set_cons_succ]
    refine wpG_make (fun u _ => u = I (er (okPuller p))) rfl rfl (fun w' hw' _ => ?_) (fun u hu => ?_)
    · go_simp
      exact call_grow (checkPuller_any p w')
    obtain ⟨_, _, rfl⟩ := hu
    simp only [Act.put, List.setIfInBounds_toArray, List.set_cons_zero, List.set_cons_succ]
    repeat (refine wpG_one rfl rfl rfl ?_; intro K hK; go_big_quiet_op; go_big_quiet_on)
    refine wpG_make (OwnF R) rfl rfl (fun w' hw' _ => ?_) (fun u hu => ?_)
    · go_simp
      exact own_grow (own_any _ _ _ _ _ _ R w' (Hrun.out.below hw'.le))
    obtain ⟨_, _, B1, B2, B3, d1, d2, d3, rfl, _, _⟩ := hu
    simp only [Act.put, List.setIfInBounds_toArray, List.set_cons_zero, List.set_cons_succ]
    refine wpG_make (fun u _ => u = I (er (okRun R))) rfl rfl (fun w' hw' hk => ?_) (fun u hu => ?_)
    · have hk3 := hk ⟨3, .data⟩ (by simp) rfl _ _ _ rfl rfl rfl (by simp) rfl
      obtain ⟨E1, E2, E3, e1, e2, e3, he, hr, _⟩ := hk3.now
      go_simp
      exact call_grow (checkRun_any E1 E2 E3 e1 e2 e3 R w' hr)
    obtain ⟨_, _, rfl⟩ := hu
    simp only [Act.put, List.setIfInBounds_toArray, List.set_cons_zero, List.set_cons_succ]
    repeat (refine wpG_one rfl rfl rfl ?_; intro K hK; go_big_quiet_op; go_big_quiet_on)
    refine wpG_nil (fun W2 hw2 _ => ?_)
    have L2 : Hid (Le W1 W2) := hw2.le
    have HR2 : Hid (RunIn W2 A1 A2 A3 R) := Hrun.out.below L2.out
    have HP2 : Hid (∀ W, Le W2 W → ∀ j, j < 117 → W.cell? ⟨w.heap.size, 0 + j, none⟩ = some (I (p j))) := fun W hW => HP.out W (L2.out.trans hW)
    have HC : Hid (∀ W, Le W2 W → W.cell? ⟨w.heap.size + 1, 0, none⟩ = some (.slice A1 R.ss.length c1) ∧ W.cell? ⟨w.heap.size + 1, 1, none⟩ = some (I R.e) ∧ W.cell? ⟨w.heap.size + 1, 2, none⟩ = some (.slice A2 R.ms.length c2) ∧ W.cell? ⟨w.heap.size + 1, 3, none⟩ = some (.slice A3 R.es.length c3)) := fun W hW => by
      have hb := L2.out.trans hW
      exact ⟨(hb.cell (p := ⟨_, _, none⟩) (block_lt_of_cell y0)).trans y0, (hb.cell (p := ⟨_, _, none⟩) (block_lt_of_cell y1)).trans y1, (hb.cell (p := ⟨_, _, none⟩) (block_lt_of_cell y2)).trans y2, (hb.cell (p := ⟨_, _, none⟩) (block_lt_of_cell y3)).trans y3⟩
    clear hw2 y0 y1 y2 y3 z0 z1 z2 z3
    rcases hp : okPuller p with _ | _ <;> rcases hr : okRun R with _ | _
    all_goals
      simp only [er, if_true, if_false, Bool.false_eq_true]
      have Hp := Lib.hid hp
      have Hr := Lib.hid hr
      clear hp hr
      go_wp2_with (refine wpList_load_ia rfl 30 _ rfl w.heap.size 0 rfl 117 p _ (HP2.out _ (Le.refl _)) Try.underlying30 rfl (by kernel_rfl) ?_)
      refine (refPuller_any p W2).mono ?_
      rintro e W3 ⟨rfl, hb3⟩
      rw [Hp.out]
      have L3 : Hid (Le W2 W3) := hb3
      obtain ⟨x0, x1, x2, x3⟩ := HC.out W3 L3.out
      clear hb3
      go_wp2_with fail
      refine (refRun_any A1 A2 A3 c1 c2 c3 R W3 (HR2.out.below L3.out)).mono ?_
      rintro e W4 ⟨rfl, hb4⟩
      rw [Hr.out]
      have L4 : Hid (Le W3 W4) := hb4
      clear hb4 x0 x1 x2 x3
      go_wp2_with fail
      refine (known_any W4).mono ?_
      rintro e W5 ⟨rfl, hb5⟩
      have L5 : Hid (Below w.heap.size w W5) := HU.out _ (L2.out.trans (L3.out.trans (L4.out.trans hb5)))
      clear hb5
      go_wp2_with fail
      go_ret
      exact ⟨rfl, L5.out⟩
  · have hB : Hid (Below w.heap.size w W1) := HU.out _ (Below.refl _ _)
    have HW := Lib.hid hW1
    clear hW1 h1 h2 h3 HP
    have HC : Hid (∀ P : Prop, (70 < R.ss.length → P) → (R.ss.length ≤ 70 → 110 < R.ms.length → P) → (R.ss.length ≤ 70 → R.ms.length ≤ 110 → 30 < R.es.length → P) → P) := fun P a b c => by
      by_cases q1 : 70 < R.ss.length
      · exact a q1
      · by_cases q2 : 110 < R.ms.length
        · exact b (by omega) q2
        · exact c (by omega) (by omega) (by omega)
    clear hlen
    refine HC.out _ (fun q1 => ?_) (fun q1 q2 => ?_) (fun q1 q2 q3 => ?_)
    all_goals
      clear HC
      go_enter Try.func3, Try.ntmps3
      go_wp2_with fail
      rw [← HW.out]
      refine (known_any W1).mono ?_
      rintro e W5 ⟨rfl, hb5⟩
      have L5 : Hid (Below w.heap.size w W5) := HU.out _ hb5
      clear hb5
      go_wp2_with fail
      go_ret
      exact ⟨rfl, L5.out⟩
end Go.Proofs.Ytlebefopdnadaaa
