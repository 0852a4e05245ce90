/- The contract of own of the statements' package: a run with lists of its own. -/
import Derived.Test.YtbojgcaehlapiaaMka
import Derived.Test.YtbojgcaehlapiaaOba
import Derived.ArgAppend
import Derived.Test.YtbojgcaehlapiaaSpa
namespace Go.Proofs.Ytbojgcaehlapiaa
open Go.RowKit
theorem Rd.flat_at {w : World} {sz n : Nat} {b o : Nat} {g : Nat → Nat → Value} (hc : ∀ k, k < n → ∀ j, j < sz → w.cell? ⟨b, o + k * sz + j, none⟩ = some (g k j)) (hsz : 0 < sz) :
    ∀ j u, (flat sz g n)[j]? = some u → w.cell? ((⟨b, o, none⟩ : Addr).add j) = some u := by
  intro j u hu
  have hj : j < n * sz := by have := (List.getElem?_eq_some_iff.1 hu).1; rwa [flat_len] at this
  have e : j = j / sz * sz + j % sz := by rw [Nat.mul_comm]; exact (Nat.div_add_mod j sz).symm
  have hk : j / sz < n := Nat.div_lt_of_lt_mul (by rw [Nat.mul_comm]; exact hj)
  have hm : j % sz < sz := Nat.mod_lt _ hsz
  have h1 := flat_get g hk hm
  rw [← e, hu] at h1
  have h2 : w.cell? ⟨b, o + j / sz * sz + j % sz, none⟩ = some (g (j / sz) (j % sz)) := hc _ hk _ hm
  rw [addr_add, show o + j = o + j / sz * sz + j % sz by omega, h2]
  exact h1.symm
/-- A slice of n elements that reads as g, from block B0 on. -/
def SlAt (B0 sz n : Nat) (g : Nat → Nat → Value) (u : Value) (w : World) : Prop := ∃ A c, u = .slice A n c ∧ n ≤ c ∧ Rd w w.heap.size sz A n g ∧ (0 < n → ∃ b o, A = some ⟨b, o, none⟩ ∧ B0 ≤ b)
theorem SlAt.box {B0 sz n : Nat} {g : Nat → Nat → Value} {u : Value} {w : World} (h : SlAt B0 sz n g u w) : Box (SlAt B0 sz n g) u w := fun w' hl => by
  obtain ⟨A, c, hu, hn, hr, hb⟩ := h
  exact ⟨A, c, hu, hn, (hr.below hl).more hl.size, hb⟩
theorem SlAt.set {B0 sz n c : Nat} {A : Option Addr} {g : Nat → Nat → Value} {w : World} (h : SlAt B0 sz n g (.slice A n c) w) {q : Nat} (hq : q < B0) (cs : Array Value) : n ≤ c ∧ Rd (w.setRow q cs) (w.setRow q cs).heap.size sz A n g := by
  obtain ⟨A', c', hu, hn, hr, hb⟩ := h
  injection hu with e1 e2 e3
  subst e1 e3
  refine ⟨hn, fun h0 => ?_⟩
  obtain ⟨b, o, hA, hlt, hc⟩ := hr h0
  obtain ⟨b2, o2, hA2, hB⟩ := hb h0
  have hbb : b = b2 := by rw [hA] at hA2; injection hA2 with e; injection e
  subst hbb
  refine ⟨b, o, hA, by rw [setRow_size]; exact hlt, fun k hk j hj => ?_⟩
  rw [← hc k hk j hj]
  unfold World.cell?
  rw [setRow_other (show b ≠ q by omega)]
theorem app_grow {P : Program} {o : Oper} {a : Act} {w : World} (s x : Operand) (t : TypeId) (ho : o.op = .call { callee := .builtin .append, args := #[s, x], argTypes := #[t, t] })
    (e : TypeId) (i : TypeInfo) (z : Value) (sz bytes : Nat) (ht : P.underlying t = some (.slice e)) (hi : P.info? e = some i) (hz : i.zero = some z) (hsz : i.size = sz) (hby : i.bytes = bytes) (hzs : z.cells.size = sz) (h0 : 0 < sz)
    (b : Nat) (hs : a.eval s = .slice (some ⟨b, 0, none⟩) 0 0) (A : Option Addr) (n c : Nat) (hx : a.eval x = .slice A n c) (g : Nat → Nat → Value) (hr : Rd w w.heap.size sz A n g) (hn : n ≤ 1000000) (hb : bytes ≤ 1000000) {B0 : Nat} (hB0 : B0 ≤ w.heap.size) :
    Oper.grows P o a w (SlAt B0 sz n g) := by
  have hrun : ∃ u w', (Builtin.append_ #[t, t] o.type #[.slice (some ⟨b, 0, none⟩) 0 0, .slice A n c]).run P w = .ok u w' ∧ Le w w' ∧ SlAt B0 sz n g u w' := by
    by_cases hn0 : n = 0
    · subst hn0
      refine ⟨.slice (some ⟨b, 0, none⟩) 0 0, w, ?_, Le.refl w, ⟨_, _, rfl, Nat.le_refl _, Rd.nil, fun h => absurd h (by omega)⟩⟩
      cases A <;> simp [go_sem, Builtin.append_, run_underlying ht, sizeOf, typeInfo, hi, Builtin.lenOf, Builtin.firstCells, storeCells]
    · obtain ⟨b2, o2, hA, _, hc⟩ := hr (by omega)
      subst hA
      have hm : n * bytes ≤ 1000000 * 1000000 := Nat.mul_le_mul hn hb
      obtain ⟨v', w', hrun, hown, hgr⟩ := run_append_arg_grows (P := P) w t o.type e i z sz bytes ht hi hz hsz hby hzs h0 ⟨b, 0, none⟩ 0 0 [] (by simp) (fun j u hu => by simp at hu) ⟨b2, o2, none⟩ n c (flat sz g n) (flat_len _ _ _) (Rd.flat_at hc h0) (by omega) (by unfold maxLen; omega) (by rw [Nat.zero_add]; omega)
      rw [Nat.zero_add, List.nil_append] at hown
      obtain ⟨A', c', hv, hnc, hrd⟩ := Rd.of_own_cap hown
      refine ⟨v', w', hrun, (Below.refl _ _).grown hgr (Nat.le_refl _) (fun g hg => by cases hg), A', c', hv, hnc, hrd, fun _ => ?_⟩
      rcases hown.2 with ⟨hq, _⟩ | ⟨q, cap, cur, hq, hqb, _⟩
      · rw [hv] at hq; injection hq with e1 e2 e3; omega
      · rw [hv] at hq; injection hq with e1 e2 e3
        exact ⟨q, 0, e1, by omega⟩
  obtain ⟨u, w', hrun, hl, hsl⟩ := hrun
  unfold Oper.grows
  have he : (execOp a.eval o).run P w = .ok (.value u) w' := by
    simp [execOp, ho, resolve, invoke, builtin, hs, hx, hrun, Result.andThen]
  rw [he]
  exact ⟨hl, hsl.box⟩
/-- A fresh slice without elements. -/
def Emp (u : Value) (_ : World) : Prop := ∃ b, u = .slice (some ⟨b, 0, none⟩) 0 0
/-- A run with lists of its own comes back. -/
def RetOwn (w : World) (R : Run) (e : Ending) (w' : World) : Prop := ∃ A1 A2 A3 c1 c2 c3, e = .returned (runV A1 A2 A3 c1 c2 c3 R) ∧ RunIn w' A1 A2 A3 R ∧ R.ms.length ≤ c2 ∧ Below w.heap.size w w'
theorem stg_info : (Try.prog.info? 37).map (fun i => (i.zero, i.size, i.bytes)) = some (some (.agg #[I 0, I 0, I 0, I 0, I 0, I 0, I 0, I 0]), 8, 64) := by kernel_rfl
theorem smp_info : (Try.prog.info? 82).map (fun i => (i.zero, i.size, i.bytes)) = some (some (.agg #[I 0, I 0, I 0]), 3, 24) := by kernel_rfl
theorem evt_info : (Try.prog.info? 74).map (fun i => (i.zero, i.size, i.bytes)) = some (some (.agg #[I 0, I 0]), 2, 16) := by kernel_rfl
theorem emp_grow (w : World) {e : TypeId} : Le w (w.alloc (.cells #[] e)) ∧ Box Emp (.slice (some ⟨w.heap.size, 0, none⟩) 0 0) (w.alloc (.cells #[] e)) :=
  ⟨(Below.refl _ _).alloc (Nat.le_refl _) _, fun _ _ => ⟨_, rfl⟩⟩
set_option maxRecDepth 100000 in
set_option maxHeartbeats 1000000 in
theorem own_any (A1 A2 A3 : Option Addr) (c1 c2 c3 : Nat) (R : Run) (w : World) (h : RunIn w A1 A2 A3 R) : Calls Try.prog 8 #[runV A1 A2 A3 c1 c2 c3 R] w (RetOwn w R) := by
  obtain ⟨W1, hW1⟩ : ∃ W1, W1 = (w.alloc (.cells #[.slice A1 R.ss.length c1, I R.e, .slice A2 R.ms.length c2, .slice A3 R.es.length c3] 48)).alloc (.cells #[.slice none 0 0, I 0, .slice none 0 0, .slice none 0 0] 48) := ⟨_, rfl⟩
  have hrun : RunIn W1 A1 A2 A3 R := by rw [hW1]; exact (h.alloc _).alloc _
  have y0 : W1.cell? ⟨w.heap.size, 0, none⟩ = some (.slice A1 R.ss.length c1) := by rw [hW1]; simp
  have y1 : W1.cell? ⟨w.heap.size, 1, none⟩ = some (I R.e) := by rw [hW1]; simp
  have y2 : W1.cell? ⟨w.heap.size, 2, none⟩ = some (.slice A2 R.ms.length c2) := by rw [hW1]; simp
  have y3 : W1.cell? ⟨w.heap.size, 3, none⟩ = some (.slice A3 R.es.length c3) := by rw [hW1]; simp
  have z0 := ovr_cell y0
  have z1 := ovr_cell y1
  have z2 := ovr_cell y2
  have z3 := ovr_cell y3
  have HR : Hid (W1.heap[w.heap.size + 1]? = some (.cells #[.slice none 0 0, I 0, .slice none 0 0, .slice none 0 0] 48 (0, 0))) := by show W1.heap[_]? = _; rw [hW1]; exact heap_last _ _ _ (by simp)
  have HU : Hid (∀ W, Below W1.heap.size W1 W → Below w.heap.size w W) := fun W hW => by rw [hW1] at hW; exact under2 (under2 hW)
  have HW := Lib.hid hW1
  have Hrun := Lib.hid hrun
  obtain ⟨ls, lm, le⟩ : R.ss.length ≤ 1000000 ∧ R.ms.length ≤ 1000000 ∧ R.es.length ≤ 1000000 := ⟨h.ls, h.lm, h.le⟩
  obtain ⟨i1, hi1, iz1, is1, ib1⟩ := info_parts stg_info
  obtain ⟨i2, hi2, iz2, is2, ib2⟩ := info_parts smp_info
  obtain ⟨i3, hi3, iz3, is3, ib3⟩ := info_parts evt_info
  clear h hW1 hrun y0 y1 y2 y3
  go_enter Try.func8, Try.ntmps8
  go_wp2_with fail
  rw [← HW.out]
  refine wp_region_make_last (fun j => if j = 0 ∨ j = 6 ∨ j = 10 then some Emp else if j = 3 then some (SlAt W1.heap.size 8 R.ss.length (rS R.ss)) else if j = 9 then some (SlAt W1.heap.size 3 R.ms.length (rM R.ms)) else if j = 13 then some (SlAt W1.heap.size 2 R.es.length (rE R.es)) else none) (by kernel_rfl) (by kernel_rfl) (by kernel_rfl) (by kernel_rfl) rfl ?_
  simp only [skipLast_two, skipLast_one, lastOf_two, lastOf_one]
  refine wpG_make Emp rfl rfl (fun w' hw' _ => ?_) (fun u hu => ?_)
  · go_simp
    exact emp_grow _
  obtain ⟨_, _, b1, rfl⟩ := hu
  simp only [Act.put, List.setIfInBounds_toArray, List.set_cons_zero, List.set_cons_succ]
  repeat (refine wpG_one rfl rfl rfl ?_; intro K hK; go_big_quiet_op; go_big_quiet_on)
  refine wpG_make (SlAt W1.heap.size 8 R.ss.length (rS R.ss)) rfl rfl (fun w' hw' _ => ?_) (fun u hu => ?_)
  · exact app_grow _ _ 44 rfl 37 i1 _ 8 64 Try.underlying44 hi1 iz1 is1 ib1 rfl (by decide) b1 rfl A1 R.ss.length c1 rfl _ ((Hrun.out.s.below hw'.le).more hw'.le.size) ls (by decide) hw'.le.size
  obtain ⟨_, _, B1, d1, rfl, hd1, _, _⟩ := hu
  simp only [Act.put, List.setIfInBounds_toArray, List.set_cons_zero, List.set_cons_succ]
  repeat (refine wpG_one rfl rfl rfl ?_; intro K hK; go_big_quiet_op; go_big_quiet_on)
  refine wpG_make Emp rfl rfl (fun w' hw' _ => ?_) (fun u hu => ?_)
  · go_simp
    exact emp_grow _
  obtain ⟨_, _, b2, rfl⟩ := hu
  simp only [Act.put, List.setIfInBounds_toArray, List.set_cons_zero, List.set_cons_succ]
  repeat (refine wpG_one rfl rfl rfl ?_; intro K hK; go_big_quiet_op; go_big_quiet_on)
  refine wpG_make (SlAt W1.heap.size 3 R.ms.length (rM R.ms)) rfl rfl (fun w' hw' _ => ?_) (fun u hu => ?_)
  · exact app_grow _ _ 45 rfl 82 i2 _ 3 24 Try.underlying45 hi2 iz2 is2 ib2 rfl (by decide) b2 rfl A2 R.ms.length c2 rfl _ ((Hrun.out.m.below hw'.le).more hw'.le.size) lm (by decide) hw'.le.size
  obtain ⟨_, _, B2, d2, rfl, hd2, _, _⟩ := hu
  simp only [Act.put, List.setIfInBounds_toArray, List.set_cons_zero, List.set_cons_succ]
  repeat (refine wpG_one rfl rfl rfl ?_; intro K hK; go_big_quiet_op; go_big_quiet_on)
  refine wpG_make Emp rfl rfl (fun w' hw' _ => ?_) (fun u hu => ?_)
  · go_simp
    exact emp_grow _
  obtain ⟨_, _, b3, rfl⟩ := hu
  simp only [Act.put, List.setIfInBounds_toArray, List.set_cons_zero, List.set_cons_succ]
  repeat (refine wpG_one rfl rfl rfl ?_; intro K hK; go_big_quiet_op; go_big_quiet_on)
  refine wpG_make (SlAt W1.heap.size 2 R.es.length (rE R.es)) rfl rfl (fun w' hw' _ => ?_) (fun u hu => ?_)
  · exact app_grow _ _ 46 rfl 74 i3 _ 2 16 Try.underlying46 hi3 iz3 is3 ib3 rfl (by decide) b3 rfl A3 R.es.length c3 rfl _ ((Hrun.out.e.below hw'.le).more hw'.le.size) le (by decide) hw'.le.size
  obtain ⟨_, _, B3, d3, rfl, hd3, _, _⟩ := hu
  simp only [Act.put, List.setIfInBounds_toArray, List.set_cons_zero, List.set_cons_succ]
  repeat (refine wpG_one rfl rfl rfl ?_; intro K hK; go_big_quiet_op; go_big_quiet_on)
  refine wpG_nil (fun w5 hw5 hG => ?_)
  have hr1 := (hw5.le.block _ (Array.getElem?_eq_some_iff.1 HR.out).1).trans HR.out
  have hz1 : Hid (W1.heap.size = w.heap.size + 1 + 1) := by show _ = _; rw [HW.out]; simp
  obtain ⟨⟨⟨⟨⟨⟨_, _⟩, g1⟩, _⟩, g2⟩, _⟩, g3⟩ := hG
  have hfin : Hid (RunIn (w5.setRow (w.heap.size + 1) #[.slice B1 R.ss.length d1, I R.e, .slice B2 R.ms.length d2, .slice B3 R.es.length d3]) B1 B2 B3 R) :=
    ⟨(g1.now.set (by have := hz1.out; omega) _).2, (g2.now.set (by have := hz1.out; omega) _).2, (g3.now.set (by have := hz1.out; omega) _).2, ls, lm, le⟩
  have hbe : Hid (Below w.heap.size w (w5.setRow (w.heap.size + 1) #[.slice B1 R.ss.length d1, I R.e, .slice B2 R.ms.length d2, .slice B3 R.es.length d3])) := below_setRow (HU.out _ hw5.le) (by omega) _
  refine wp_store_row 48 _ _ rfl (w.heap.size + 1) rfl _ _ hr1 #[.slice B1 R.ss.length d1, I R.e, .slice B2 R.ms.length d2, .slice B3 R.es.length d3] rfl (by intro v hv; simp at hv; rcases hv with rfl | rfl | rfl | rfl <;> rfl) rfl (by kernel_rfl) ?_
  clear g1 g2 g3
  go_wp2_with fail
  refine bodyPost_ret (results_cell_only rfl _ _ (w.heap.size + 1) 48 #[.slice B1 R.ss.length d1, I R.e, .slice B2 R.ms.length d2, .slice B3 R.es.length d3] (0, 0) _ rfl (setRow_same hr1) Try.underlying48 rfl (by kernel_rfl)) rfl ?_
  exact ⟨B1, B2, B3, d1, d2, d3, rfl, hfin.out, hd2, hbe.out⟩
end Go.Proofs.Ytbojgcaehlapiaa
/- The contracts of within, span, values and Puller of the reference. -/
namespace Go.Proofs.Ytbojgcaehlapiaa
open Go.RowKit
def wiB (n a b : Int) : Bool := decide (a ≤ n) && decide (n ≤ b)
def spnB (lo hi m : Int) : Bool := decide (0 ≤ lo) && decide (lo ≤ hi) && decide (hi ≤ m)
theorem wiB_iff {n a b : Int} : wiB n a b = true ↔ a ≤ n ∧ n ≤ b := by simp [wiB]
theorem spnB_iff {lo hi m : Int} : spnB lo hi m = true ↔ 0 ≤ lo ∧ lo ≤ hi ∧ hi ≤ m := by simp [spnB, and_assoc]
theorem span_any (lo hi m : Int) (w : World) : Calls Try.prog 71 #[.agg #[I lo, I hi], I m] w fun e w' => e = .returned (.bool (spnB lo hi m)) ∧ Below w.heap.size w w' := by
  have HB : Hid (∀ x, Below w.heap.size w (w.alloc x)) := fun x => (Below.refl _ _).alloc (Nat.le_refl _) x
  by_cases h1 : 0 ≤ lo
  · by_cases h2 : lo ≤ hi
    · by_cases h3 : hi ≤ m
      · have hf : Hid (spnB lo hi m = true) := spnB_iff.2 ⟨h1, h2, h3⟩
        go_enter Try.func71, Try.ntmps71
        go_wp2_with fail
        go_ret
        exact ⟨by rw [hf.out]; rfl, HB.out _⟩
      · have hf : Hid (spnB lo hi m = false) := by show _ = _; simp [spnB, h3]
        go_enter Try.func71, Try.ntmps71
        go_wp2_with fail
        go_ret
        exact ⟨by rw [hf.out]; rfl, HB.out _⟩
    · have hf : Hid (spnB lo hi m = false) := by show _ = _; simp [spnB, h2]
      go_enter Try.func71, Try.ntmps71
      go_wp2_with fail
      go_ret
      exact ⟨by rw [hf.out]; rfl, HB.out _⟩
  · have hf : Hid (spnB lo hi m = false) := by show _ = _; simp [spnB, h1]
    go_enter Try.func71, Try.ntmps71
    go_wp2_with fail
    go_ret
    exact ⟨by rw [hf.out]; rfl, HB.out _⟩
theorem okSet_no {s : Stg} {g : Nat} (hg : g < 6) (h : wiB (s.v g) 0 1000000 = false) : okSet s = false := by
  cases hq : okSet s with
  | false => rfl
  | true =>
    have := ((okSet_iff s).1 hq).2 g hg
    rw [wiB_iff.2 this] at h; cases h
end Go.Proofs.Ytbojgcaehlapiaa
/- The contract of Puller of the reference. -/
namespace Go.Proofs.Ytbojgcaehlapiaa
open Go.RowKit
theorem okPuller_of {p : Vec} (h : VPul p) : okPuller p = true := by
  unfold okPuller
  rw [Bool.and_eq_true, List.all_eq_true]
  refine ⟨fun r hr => ?_, ?_⟩
  · have hr5 : r < 5 := by simpa using hr
    have hb := h.bd r hr5
    have hm := h.rm r hr5
    simp only [ruleB, Bool.and_eq_true, rangeB_iff, inB_iff]
    refine ⟨⟨⟨fun x hx => ?_, fun x hx => ?_⟩, fun x hx => ?_⟩, fun x hx => ?_⟩
    · simp only [bnds, List.mem_cons, List.mem_nil_iff, or_false] at hx
      rcases hx with rfl | rfl | rfl | rfl | rfl | rfl
      · exact hb 0 (by omega)
      · exact hb 1 (by omega)
      · exact hb 2 (by omega)
      · exact hb 3 (by omega)
      · exact hb 4 (by omega)
      · exact hb 5 (by omega)
    · simp only [rmps, List.mem_cons, List.mem_nil_iff, or_false] at hx
      rcases hx with rfl | rfl | rfl | rfl | rfl | rfl
      · exact hm 0 (by omega)
      · exact hm 1 (by omega)
      · exact hm 2 (by omega)
      · exact hm 3 (by omega)
      · exact hm 4 (by omega)
      · exact hm 5 (by omega)
    · simp at hx; subst hx; exact h.sc r hr5
    · simp at hx; subst hx; exact h.ln r hr5
  · simp only [restB, Bool.and_eq_true, rangeB_iff, inB_iff]
    refine ⟨⟨⟨fun x hx => ?_, fun x hx => ?_⟩, fun x hx => ?_⟩, fun x hx => ?_⟩
    · simp at hx; rcases hx with rfl | rfl
      · exact h.grow
      · exact h.shrink
    · simp at hx; subst hx; exact h.lim
    · simp at hx; subst hx; exact h.slip
    · simp at hx; rcases hx with rfl | rfl
      · exact h.hold
      · exact h.grace
theorem okPuller_no' {p : Vec} (h : VPul p → False) : okPuller p = false := by
  cases hq : okPuller p with
  | false => rfl
  | true => exact (h (vPul_of hq)).elim
/-- A rule is good. -/
def goodR (p : Vec) (r : Nat) : Prop := (∀ g, g < 6 → spnB (p (r * 22 + g * 2)) (p (r * 22 + g * 2 + 1)) 1000000 = true ∧ wiB (p (r * 22 + 12 + g)) 0 1000000 = true) ∧ spnB (p (r * 22 + 18)) (p (r * 22 + 19)) 100000 = true ∧ spnB (p (r * 22 + 20)) (p (r * 22 + 21)) 10000000000 = true
def restP (p : Vec) : Prop := wiB (p 110) 0 1000000 = true ∧ wiB (p 111) 0 1000000 = true ∧ spnB (p 112) (p 113) 1000000 = true ∧ wiB (p 114) 0 10000000000 = true ∧ wiB (p 115) 0 100000 = true ∧ wiB (p 116) 0 100000 = true
theorem vPul_good {p : Vec} (h : VPul p) {r : Nat} (hr : r < 5) : goodR p r := ⟨fun g hg => ⟨spnB_iff.2 (h.bd r hr g hg), wiB_iff.2 (h.rm r hr g hg)⟩, spnB_iff.2 (h.sc r hr), spnB_iff.2 (h.ln r hr)⟩
theorem vPul_rest {p : Vec} (h : VPul p) : restP p := ⟨wiB_iff.2 h.grow, wiB_iff.2 h.shrink, spnB_iff.2 h.lim, wiB_iff.2 h.slip, wiB_iff.2 h.hold, wiB_iff.2 h.grace⟩
theorem vPul_mk {p : Vec} (h : ∀ r, r < 5 → goodR p r) (h2 : restP p) : VPul p where
  bd := fun r hr g hg => spnB_iff.1 ((h r hr).1 g hg).1
  rm := fun r hr g hg => wiB_iff.1 ((h r hr).1 g hg).2
  sc := fun r hr => spnB_iff.1 (h r hr).2.1
  ln := fun r hr => spnB_iff.1 (h r hr).2.2
  grow := wiB_iff.1 h2.1
  shrink := wiB_iff.1 h2.2.1
  lim := spnB_iff.1 h2.2.2.1
  slip := wiB_iff.1 h2.2.2.2.1
  hold := wiB_iff.1 h2.2.2.2.2.1
  grace := wiB_iff.1 h2.2.2.2.2.2
theorem ff_tt {b : Bool} (h : b = false) (h' : b = true) : False := by rw [h] at h'; cases h'
end Go.Proofs.Ytbojgcaehlapiaa
