/- The contract of own of the statements' package: a run with lists of its own. -/
import Derived.Test.YtlebefopdnadaaaMka
import Derived.Test.YtlebefopdnadaaaOba
import Derived.ArgAppend
import Derived.Test.YtlebefopdnadaaaSpa
namespace Go.Proofs.Ytlebefopdnadaaa
open Go.RowKit
theorem Rd.flat_at {w : World} {sz n : Nat} {b o : Nat} {g : Nat → Nat → Value} (hc : ∀ k, k < n → ∀ j, j < sz → w.cell? ⟨b, o + k * sz + j, none⟩ = some (g k j)) (hsz : 0 < sz) :
    ∀ j u, (flat sz g n)[j]? = some u → w.cell? ((⟨b, o, none⟩ : Addr).add j) = some u := by
  intro j u hu
  have hj : j < n * sz := by have := (List.getElem?_eq_some_iff.1 hu).1; rwa [flat_len] at this
  have e : j = j / sz * sz + j % sz := by rw [Nat.mul_comm]; exact (Nat.div_add_mod j sz).symm
  have hk : j / sz < n := Nat.div_lt_of_lt_mul (by rw [Nat.mul_comm]; exact hj)
  have hm : j % sz < sz := Nat.mod_lt _ hsz
  have h1 := flat_get g hk hm
  rw [← e, hu] at h1
  have h2 : w.cell? ⟨b, o + j / sz * sz + j % sz, none⟩ = some (g (j / sz) (j % sz)) := hc _ hk _ hm
  rw [addr_add, show o + j = o + j / sz * sz + j % sz by omega, h2]
  exact h1.symm
/-- A slice of n elements that reads as g, from block B0 on. -/
def SlAt (B0 sz n : Nat) (g : Nat → Nat → Value) (u : Value) (w : World) : Prop := ∃ A c, u = .slice A n c ∧ n ≤ c ∧ Rd w w.heap.size sz A n g ∧ (0 < n → ∃ b o, A = some ⟨b, o, none⟩ ∧ B0 ≤ b)
theorem SlAt.box {B0 sz n : Nat} {g : Nat → Nat → Value} {u : Value} {w : World} (h : SlAt B0 sz n g u w) : Box (SlAt B0 sz n g) u w := fun w' hl => by
  obtain ⟨A, c, hu, hn, hr, hb⟩ := h
  exact ⟨A, c, hu, hn, (hr.below hl).more hl.size, hb⟩
theorem SlAt.set {B0 sz n c : Nat} {A : Option Addr} {g : Nat → Nat → Value} {w : World} (h : SlAt B0 sz n g (.slice A n c) w) {q : Nat} (hq : q < B0) (cs : Array Value) : n ≤ c ∧ Rd (w.setRow q cs) (w.setRow q cs).heap.size sz A n g := by
  obtain ⟨A', c', hu, hn, hr, hb⟩ := h
  injection hu with e1 e2 e3
  subst e1 e3
  refine ⟨hn, fun h0 => ?_⟩
  obtain ⟨b, o, hA, hlt, hc⟩ := hr h0
  obtain ⟨b2, o2, hA2, hB⟩ := hb h0
  have hbb : b = b2 := by rw [hA] at hA2; injection hA2 with e; injection e
  subst hbb
  refine ⟨b, o, hA, by rw [setRow_size]; exact hlt, fun k hk j hj => ?_⟩
  rw [← hc k hk j hj]
  unfold World.cell?
  rw [setRow_other (show b ≠ q by omega)]
theorem app_grow {P : Program} {o : Oper} {a : Act} {w : World} (s x : Operand) (t : TypeId) (ho : o.op = .call { callee := .builtin .append, args := #[s, x], argTypes := #[t, t] })
    (e : TypeId) (i : TypeInfo) (z : Value) (sz bytes : Nat) (ht : P.underlying t = some (.slice e)) (hi : P.info? e = some i) (hz : i.zero = some z) (hsz : i.size = sz) (hby : i.bytes = bytes) (hzs : z.cells.size = sz) (h0 : 0 < sz)
    (b : Nat) (hs : a.eval s = .slice (some ⟨b, 0, none⟩) 0 0) (A : Option Addr) (n c : Nat) (hx : a.eval x = .slice A n c) (g : Nat → Nat → Value) (hr : Rd w w.heap.size sz A n g) (hn : n ≤ 1000000) (hb : bytes ≤ 1000000) {B0 : Nat} (hB0 : B0 ≤ w.heap.size) :
    Oper.grows P o a w (SlAt B0 sz n g) := by
  have hrun : ∃ u w', (Builtin.append_ #[t, t] o.type #[.slice (some ⟨b, 0, none⟩) 0 0, .slice A n c]).run P w = .ok u w' ∧ Le w w' ∧ SlAt B0 sz n g u w' := by
    by_cases hn0 : n = 0
    · subst hn0
      refine ⟨.slice (some ⟨b, 0, none⟩) 0 0, w, ?_, Le.refl w, ⟨_, _, rfl, Nat.le_refl _, Rd.nil, fun h => absurd h (by omega)⟩⟩
      cases A <;> simp [go_sem, Builtin.append_, run_underlying ht, sizeOf, typeInfo, hi, Builtin.lenOf, Builtin.firstCells, storeCells]
    · obtain ⟨b2, o2, hA, _, hc⟩ := hr (by omega)
      subst hA
      have hm : n * bytes ≤ 1000000 * 1000000 := Nat.mul_le_mul hn hb
      obtain ⟨v', w', hrun, hown, hgr⟩ := run_append_arg_grows (P := P) w t o.type e i z sz bytes ht hi hz hsz hby hzs h0 ⟨b, 0, none⟩ 0 0 [] (by simp) (fun j u hu => by simp at hu) ⟨b2, o2, none⟩ n c (flat sz g n) (flat_len _ _ _) (Rd.flat_at hc h0) (by omega) (by unfold maxLen; omega) (by rw [Nat.zero_add]; omega)
      rw [Nat.zero_add, List.nil_append] at hown
      obtain ⟨A', c', hv, hnc, hrd⟩ := Rd.of_own_cap hown
      refine ⟨v', w', hrun, (Below.refl _ _).grown hgr (Nat.le_refl _) (fun g hg => by cases hg), A', c', hv, hnc, hrd, fun _ => ?_⟩
      rcases hown.2 with ⟨hq, _⟩ | ⟨q, cap, cur, hq, hqb, _⟩
      · rw [hv] at hq; injection hq with e1 e2 e3; omega
      · rw [hv] at hq; injection hq with e1 e2 e3
        exact ⟨q, 0, e1, by omega⟩
  obtain ⟨u, w', hrun, hl, hsl⟩ := hrun
  unfold Oper.grows
  have he : (execOp a.eval o).run P w = .ok (.value u) w' := by
    simp [execOp, ho, resolve, invoke, builtin, hs, hx, hrun, Result.andThen]
  rw [he]
  exact ⟨hl, hsl.box⟩
/-- A fresh slice without elements. -/
def Emp (u : Value) (_ : World) : Prop := ∃ b, u = .slice (some ⟨b, 0, none⟩) 0 0
/-- A run with lists of its own comes back. -/
def RetOwn (w : World) (R : Run) (e : Ending) (w' : World) : Prop := ∃ A1 A2 A3 c1 c2 c3, e = .returned (runV A1 A2 A3 c1 c2 c3 R) ∧ RunIn w' A1 A2 A3 R ∧ R.ms.length ≤ c2 ∧ Below w.heap.size w w'
theorem stg_info : (Try.prog.info? 73).map (fun i => (i.zero, i.size, i.bytes)) = some (some (.agg #[I 0, I 0, I 0, I 0, I 0, I 0, I 0, I 0]), 8, 64) := by kernel_rfl
theorem smp_info : (Try.prog.info? 75).map (fun i => (i.zero, i.size, i.bytes)) = some (some (.agg #[I 0, I 0, I 0]), 3, 24) := by kernel_rfl
theorem evt_info : (Try.prog.info? 77).map (fun i => (i.zero, i.size, i.bytes)) = some (some (.agg #[I 0, I 0]), 2, 16) := by kernel_rfl
theorem emp_grow (w : World) {e : TypeId} : Le w (w.alloc (.cells #[] e)) ∧ Box Emp (.slice (some ⟨w.heap.size, 0, none⟩) 0 0) (w.alloc (.cells #[] e)) :=
  ⟨(Below.refl _ _).alloc (Nat.le_refl _) _, fun _ _ => ⟨_, rfl⟩⟩
set_option maxRecDepth 100000 in
set_option maxHeartbeats 1000000 in
theorem own_any (A1 A2 A3 : Option Addr) (c1 c2 c3 : Nat) (R : Run) (w : World) (h : RunIn w A1 A2 A3 R) : Calls Try.prog 15 #[runV A1 A2 A3 c1 c2 c3 R] w (RetOwn w R) := by
  obtain ⟨W1, hW1⟩ : ∃ W1, W1 = (w.alloc (.cells #[.slice A1 R.ss.length c1, I R.e, .slice A2 R.ms.length c2, .slice A3 R.es.length c3] 35)).alloc (.cells #[.slice none 0 0, I 0, .slice none 0 0, .slice none 0 0] 35) := ⟨_, rfl⟩
  have hrun : RunIn W1 A1 A2 A3 R := by rw [hW1]; exact (h.alloc _).alloc _
  have y0 : W1.cell? ⟨w.heap.size, 0, none⟩ = some (.slice A1 R.ss.length c1) := by rw [hW1]; simp
  have y1 : W1.cell? ⟨w.heap.size, 1, none⟩ = some (I R.e) := by rw [hW1]; simp
  have y2 : W1.cell? ⟨w.heap.size, 2, none⟩ = some (.slice A2 R.ms.length c2) := by rw [hW1]; simp
  have y3 : W1.cell? ⟨w.heap.size, 3, none⟩ = some (.slice A3 R.es.length c3) := by rw [hW1]; simp
  have z0 := ovr_cell y0
  have z1 := ovr_cell y1
  have z2 := ovr_cell y2
  have z3 := ovr_cell y3
  have HR : Hid (W1.heap[w.heap.size + 1]? = some (.cells #[.slice none 0 0, I 0, .slice none 0 0, .slice none 0 0] 35 (0, 0))) := by show W1.heap[_]? = _; rw [hW1]; exact heap_last _ _ _ (by simp)
  have HU : Hid (∀ W, Below W1.heap.size W1 W → Below w.heap.size w W) := fun W hW => by rw [hW1] at hW; exact under2 (under2 hW)
  have HW := Lib.hid hW1
  have Hrun := Lib.hid hrun
  obtain ⟨ls, lm, le⟩ : R.ss.length ≤ 1000000 ∧ R.ms.length ≤ 1000000 ∧ R.es.length ≤ 1000000 := ⟨h.ls, h.lm, h.le⟩
  obtain ⟨i1, hi1, iz1, is1, ib1⟩ := info_parts stg_info
  obtain ⟨i2, hi2, iz2, is2, ib2⟩ := info_parts smp_info
  obtain ⟨i3, hi3, iz3, is3, ib3⟩ := info_parts evt_info
  clear h hW1 hrun y0 y1 y2 y3
  go_enter Try.func15, Try.ntmps15
  go_wp2_with fail
  rw [← HW.out]
  refine wp_region_make_last (fun j => if j = 0 ∨ j = 6 ∨ j = 10 then some Emp else if j = 3 then some (SlAt W1.heap.size 8 R.ss.length (rS R.ss)) else if j = 9 then some (SlAt W1.heap.size 3 R.ms.length (rM R.ms)) else if j = 13 then some (SlAt W1.heap.size 2 R.es.length (rE R.es)) else none) (by kernel_rfl) (by kernel_rfl) (by kernel_rfl) (by kernel_rfl) rfl ?_
  simp only [skipLast_two, skipLast_one, lastOf_two, lastOf_one]
  refine wpG_make Emp rfl rfl (fun w' hw' _ => ?_) (fun u hu => ?_)
  · go_simp
    exact emp_grow _
  obtain ⟨_, _, b1, rfl⟩ := hu
  simp only [Act.put, List.setIfInBounds_toArray, List.set_cons_zero, List.set_cons_succ]
  repeat (refine wpG_one rfl rfl rfl ?_; intro K hK; go_big_quiet_op; go_big_quiet_on)
  refine wpG_make (SlAt W1.heap.size 8 R.ss.length (rS R.ss)) rfl rfl (fun w' hw' _ => ?_) (fun u hu => ?_)
  · exact app_grow _ _ 31 rfl 73 i1 _ 8 64 Try.underlying31 hi1 iz1 is1 ib1 rfl (by decide) b1 rfl A1 R.ss.length c1 rfl _ ((Hrun.out.s.below hw'.le).more hw'.le.size) ls (by decide) hw'.le.size
  obtain ⟨_, _, B1, d1, rfl, hd1, _, _⟩ := hu
  simp only [Act.put, List.setIfInBounds_toArray, List.set_cons_zero, List.set_cons_succ]
  repeat (refine wpG_one rfl rfl rfl ?_; intro K hK; go_big_quiet_op; go_big_quiet_on)
  refine wpG_make Emp rfl rfl (fun w' hw' _ => ?_) (fun u hu => ?_)
  · go_simp
    exact emp_grow _
  obtain ⟨_, _, b2, rfl⟩ := hu
  simp only [Act.put, List.setIfInBounds_toArray, List.set_cons_zero, List.set_cons_succ]
  repeat (refine wpG_one rfl rfl rfl ?_; intro K hK; go_big_quiet_op; go_big_quiet_on)
  refine wpG_make (SlAt W1.heap.size 3 R.ms.length (rM R.ms)) rfl rfl (fun w' hw' _ => ?_) (fun u hu => ?_)
  · exact app_grow _ _ 32 rfl 75 i2 _ 3 24 Try.underlying32 hi2 iz2 is2 ib2 rfl (by decide) b2 rfl A2 R.ms.length c2 rfl _ ((Hrun.out.m.below hw'.le).more hw'.le.size) lm (by decide) hw'.le.size
  obtain ⟨_, _, B2, d2, rfl, hd2, _, _⟩ := hu
  simp only [Act.put, List.setIfInBounds_toArray, List.set_cons_zero, List.set_cons_succ]
  repeat (refine wpG_one rfl rfl rfl ?_; intro K hK; go_big_quiet_op; go_big_quiet_on)
  refine wpG_make Emp rfl rfl (fun w' hw' _ => ?_) (fun u hu => ?_)
  · go_simp
    exact emp_grow _
  obtain ⟨_, _, b3, rfl⟩ := hu
  simp only [Act.put, List.setIfInBounds_toArray, List.set_cons_zero, List.set_cons_succ]
  repeat (refine wpG_one rfl rfl rfl ?_; intro K hK; go_big_quiet_op; go_big_quiet_on)
  refine wpG_make (SlAt W1.heap.size 2 R.es.length (rE R.es)) rfl rfl (fun w' hw' _ => ?_) (fun u hu => ?_)
  · exact app_grow _ _ 33 rfl 77 i3 _ 2 16 Try.underlying33 hi3 iz3 is3 ib3 rfl (by decide) b3 rfl A3 R.es.length c3 rfl _ ((Hrun.out.e.below hw'.le).more hw'.le.size) le (by decide) hw'.le.size
  obtain ⟨_, _, B3, d3, rfl, hd3, _, _⟩ := hu
  simp only [Act.put, List.setIfInBounds_toArray, List.set_cons_zero, List.set_cons_succ]
  repeat (refine wpG_one rfl rfl rfl ?_; intro K hK; go_big_quiet_op; go_big_quiet_on)
  refine wpG_nil (fun w5 hw5 hG => ?_)
  have hr1 := (hw5.le.block _ (Array.getElem?_eq_some_iff.1 HR.out).1).trans HR.out
  have hz1 : Hid (W1.heap.size = w.heap.size + 1 + 1) := by show _ = _; rw [HW.out]; simp
  obtain ⟨⟨⟨⟨⟨⟨_, _⟩, g1⟩, _⟩, g2⟩, _⟩, g3⟩ := hG
  have hfin : Hid (RunIn (w5.setRow (w.heap.size + 1) #[.slice B1 R.ss.length d1, I R.e, .slice B2 R.ms.length d2, .slice B3 R.es.length d3]) B1 B2 B3 R) :=
    ⟨(g1.now.set (by have := hz1.out; omega) _).2, (g2.now.set (by have := hz1.out; omega) _).2, (g3.now.set (by have := hz1.out; omega) _).2, ls, lm, le⟩
  have hbe : Hid (Below w.heap.size w (w5.setRow (w.heap.size + 1) #[.slice B1 R.ss.length d1, I R.e, .slice B2 R.ms.length d2, .slice B3 R.es.length d3])) := below_setRow (HU.out _ hw5.le) (by omega) _
  refine wp_store_row 35 _ _ rfl (w.heap.size + 1) rfl _ _ hr1 #[.slice B1 R.ss.length d1, I R.e, .slice B2 R.ms.length d2, .slice B3 R.es.length d3] rfl (by intro v hv; simp at hv; rcases hv with rfl | rfl | rfl | rfl <;> rfl) rfl (by kernel_rfl) ?_
  clear g1 g2 g3
  go_wp2_with fail
  refine bodyPost_ret (results_cell_only rfl _ _ (w.heap.size + 1) 35 #[.slice B1 R.ss.length d1, I R.e, .slice B2 R.ms.length d2, .slice B3 R.es.length d3] (0, 0) _ rfl (setRow_same hr1) Try.underlying35 rfl (by kernel_rfl)) rfl ?_
  exact ⟨B1, B2, B3, d1, d2, d3, rfl, hfin.out, hd2, hbe.out⟩
end Go.Proofs.Ytlebefopdnadaaa
/- The contracts of within, span, values and Puller of the reference. -/
namespace Go.Proofs.Ytlebefopdnadaaa
open Go.RowKit
def wiB (n a b : Int) : Bool := decide (a ≤ n) && decide (n ≤ b)
def spnB (lo hi m : Int) : Bool := decide (0 ≤ lo) && decide (lo ≤ hi) && decide (hi ≤ m)
theorem wiB_iff {n a b : Int} : wiB n a b = true ↔ a ≤ n ∧ n ≤ b := by simp [wiB]
theorem spnB_iff {lo hi m : Int} : spnB lo hi m = true ↔ 0 ≤ lo ∧ lo ≤ hi ∧ hi ≤ m := by simp [spnB, and_assoc]
theorem within_any (n a b : Int) (w : World) : Calls Try.prog 47 #[I n, I a, I b] w fun e w' => e = .returned (.bool (wiB n a b)) ∧ Below w.heap.size w w' := by
  by_cases h1 : a ≤ n
  · by_cases h2 : n ≤ b
    · have hf : Hid (wiB n a b = true) := wiB_iff.2 ⟨h1, h2⟩
      go_enter Try.func47, Try.ntmps47
      go_wp2_with fail
      go_ret
      exact ⟨by rw [hf.out]; rfl, Below.refl _ _⟩
    · have hf : Hid (wiB n a b = false) := by show _ = _; simp [wiB, h2]
      go_enter Try.func47, Try.ntmps47
      go_wp2_with fail
      go_ret
      exact ⟨by rw [hf.out]; rfl, Below.refl _ _⟩
  · have hf : Hid (wiB n a b = false) := by show _ = _; simp [wiB, h1]
    go_enter Try.func47, Try.ntmps47
    go_wp2_with fail
    go_ret
    exact ⟨by rw [hf.out]; rfl, Below.refl _ _⟩
theorem span_any (lo hi m : Int) (w : World) : Calls Try.prog 46 #[.agg #[I lo, I hi], I m] w fun e w' => e = .returned (.bool (spnB lo hi m)) ∧ Below w.heap.size w w' := by
  have HB : Hid (∀ x, Below w.heap.size w (w.alloc x)) := fun x => (Below.refl _ _).alloc (Nat.le_refl _) x
  by_cases h1 : 0 ≤ lo
  · by_cases h2 : lo ≤ hi
    · by_cases h3 : hi ≤ m
      · have hf : Hid (spnB lo hi m = true) := spnB_iff.2 ⟨h1, h2, h3⟩
        go_enter Try.func46, Try.ntmps46
        go_wp2_with fail
        go_ret
        exact ⟨by rw [hf.out]; rfl, HB.out _⟩
      · have hf : Hid (spnB lo hi m = false) := by show _ = _; simp [spnB, h3]
        go_enter Try.func46, Try.ntmps46
        go_wp2_with fail
        go_ret
        exact ⟨by rw [hf.out]; rfl, HB.out _⟩
    · have hf : Hid (spnB lo hi m = false) := by show _ = _; simp [spnB, h2]
      go_enter Try.func46, Try.ntmps46
      go_wp2_with fail
      go_ret
      exact ⟨by rw [hf.out]; rfl, HB.out _⟩
  · have hf : Hid (spnB lo hi m = false) := by show _ = _; simp [spnB, h1]
    go_enter Try.func46, Try.ntmps46
    go_wp2_with fail
    go_ret
    exact ⟨by rw [hf.out]; rfl, HB.out _⟩
theorem okSet_no {s : Stg} {g : Nat} (hg : g < 6) (h : wiB (s.v g) 0 1000000 = false) : okSet s = false := by
  cases hq : okSet s with
  | false => rfl
  | true =>
    have := ((okSet_iff s).1 hq).2 g hg
    rw [wiB_iff.2 this] at h; cases h
set_option maxHeartbeats 1000000 in
theorem values_any (s : Stg) (w : World) : Calls Try.prog 48 #[s.val] w fun e w' => e = .returned (.bool (okSet s)) ∧ Below w.heap.size w w' := by
  have hb : Hid (Below w.heap.size w (w.alloc (.cells #[I s.t, I s.ph, I (s.v 0), I (s.v 1), I (s.v 2), I (s.v 3), I (s.v 4), I (s.v 5)] 73))) := (Below.refl _ _).alloc (Nat.le_refl _) _
  obtain ⟨W1, hW1⟩ : ∃ W1, W1 = w.alloc (.cells #[I s.t, I s.ph, I (s.v 0), I (s.v 1), I (s.v 2), I (s.v 3), I (s.v 4), I (s.v 5)] 73) := ⟨_, rfl⟩
  have HC : Hid (∀ g, g < 6 → W1.cell? ⟨w.heap.size, 2 + g, none⟩ = some (I (s.v g))) := by rw [hW1]; exact all6 (by simp) (by simp) (by simp) (by simp) (by simp) (by simp)
  have HP : Hid (W1.cell? ⟨w.heap.size, 1, none⟩ = some (I s.ph)) := by show _ = _; rw [hW1]; simp
  rw [← hW1] at hb
  have HW := Lib.hid hW1
  clear hW1
  go_enter Try.func48, Try.ntmps48
  go_wp2_with fail
  rw [← HW.out]
  go_loopw [3] (fun i wr => ∃ g : Nat, g ≤ 6 ∧ i = .int .i64 g ∧ (∀ j, j < g → wiB (s.v j) 0 1000000 = true) ∧ Below W1.heap.size W1 wr) (fun i _ => 6 - (intOf i).toNat)
  case atStart => exact ⟨0, by omega, rfl, fun j hj => absurd hj (by omega), Below.refl _ _⟩
  case round =>
    obtain ⟨g, hg, rfl, hs, hbw⟩ := hrel
    have Hs := Lib.hid hs
    have HB := Lib.hid hbw
    have hg6 : (g : Int) ≤ 6 := by omega
    have hfin : Hid (Below w.heap.size w wr) := hb.out.trans (hbw.mono hb.out.size)
    clear hs hbw
    by_cases hlt : g < 6
    · have x0 : wr.cell? ⟨w.heap.size, 2 + g, none⟩ = some (I (s.v g)) := (HB.out.cell (p := ⟨_, _, none⟩) (block_lt_of_cell (HC.out g hlt))).trans (HC.out g hlt)
      go_wp2_with fail
      refine (within_any _ _ _ _).mono ?_
      rintro e w1 ⟨rfl, hb1⟩
      have hb2 : Hid (Below W1.heap.size W1 w1) := HB.out.trans (hb1.mono HB.out.size)
      have hb3 : Hid (Below w.heap.size w w1) := hfin.out.trans (hb1.mono hfin.out.size)
      rcases hq : wiB (s.v g) 0 1000000 with _ | _
      · have hf : Hid (okSet s = false) := okSet_no hlt hq
        clear hq hb1
        go_wp2_with fail
        go_ret
        exact ⟨by rw [hf.out]; rfl, hb3.out⟩
      · have hcase : Hid (∀ j, j < g + 1 → wiB (s.v j) 0 1000000 = true) := succ_case Hs.out hq
        clear hq hb1
        go_wp2_with fail
        go_roundw
        case rel => exact ⟨g + 1, by omega, by go_num, hcase.out, hb2.out⟩
        case measure => simp [intOf]; omega
    · obtain rfl : g = 6 := by omega
      have x0 : wr.cell? ⟨w.heap.size, 1, none⟩ = some (I s.ph) := (HB.out.cell (p := ⟨_, _, none⟩) (block_lt_of_cell HP.out)).trans HP.out
      have hv : Hid (∀ g, g < 6 → 0 ≤ s.v g ∧ s.v g ≤ 1000000) := fun g hg => wiB_iff.1 (Hs.out g hg)
      by_cases h1 : 1 ≤ s.ph
      · by_cases h2 : s.ph ≤ 5
        · have hf : Hid (okSet s = true) := (okSet_iff s).2 ⟨⟨h1, h2⟩, hv.out⟩
          go_wp2_with fail
          go_ret
          exact ⟨by rw [hf.out]; rfl, hfin.out⟩
        · have hf : Hid (okSet s = false) := by show _ = _; simp [okSet, h2]
          go_wp2_with fail
          go_ret
          exact ⟨by rw [hf.out]; rfl, hfin.out⟩
      · have hf : Hid (okSet s = false) := by show _ = _; simp [okSet, h1]
        go_wp2_with fail
        go_ret
        exact ⟨by rw [hf.out]; rfl, hfin.out⟩
end Go.Proofs.Ytlebefopdnadaaa
/- The contract of Puller of the reference. -/
namespace Go.Proofs.Ytlebefopdnadaaa
open Go.RowKit
theorem okPuller_of {p : Vec} (h : VPul p) : okPuller p = true := by
  unfold okPuller
  rw [Bool.and_eq_true, List.all_eq_true]
  refine ⟨fun r hr => ?_, ?_⟩
  · have hr5 : r < 5 := by simpa using hr
    have hb := h.bd r hr5
    have hm := h.rm r hr5
    simp only [ruleB, Bool.and_eq_true, rangeB_iff, inB_iff]
    refine ⟨⟨⟨fun x hx => ?_, fun x hx => ?_⟩, fun x hx => ?_⟩, fun x hx => ?_⟩
    · simp only [bnds, List.mem_cons, List.mem_nil_iff, or_false] at hx
      rcases hx with rfl | rfl | rfl | rfl | rfl | rfl
      · exact hb 0 (by omega)
      · exact hb 1 (by omega)
      · exact hb 2 (by omega)
      · exact hb 3 (by omega)
      · exact hb 4 (by omega)
      · exact hb 5 (by omega)
    · simp only [rmps, List.mem_cons, List.mem_nil_iff, or_false] at hx
      rcases hx with rfl | rfl | rfl | rfl | rfl | rfl
      · exact hm 0 (by omega)
      · exact hm 1 (by omega)
      · exact hm 2 (by omega)
      · exact hm 3 (by omega)
      · exact hm 4 (by omega)
      · exact hm 5 (by omega)
    · simp at hx; subst hx; exact h.sc r hr5
    · simp at hx; subst hx; exact h.ln r hr5
  · simp only [restB, Bool.and_eq_true, rangeB_iff, inB_iff]
    refine ⟨⟨⟨fun x hx => ?_, fun x hx => ?_⟩, fun x hx => ?_⟩, fun x hx => ?_⟩
    · simp at hx; rcases hx with rfl | rfl
      · exact h.grow
      · exact h.shrink
    · simp at hx; subst hx; exact h.lim
    · simp at hx; subst hx; exact h.slip
    · simp at hx; rcases hx with rfl | rfl
      · exact h.hold
      · exact h.grace
theorem okPuller_no' {p : Vec} (h : VPul p → False) : okPuller p = false := by
  cases hq : okPuller p with
  | false => rfl
  | true => exact (h (vPul_of hq)).elim
/-- A rule is good. -/
def goodR (p : Vec) (r : Nat) : Prop := (∀ g, g < 6 → spnB (p (r * 22 + g * 2)) (p (r * 22 + g * 2 + 1)) 1000000 = true ∧ wiB (p (r * 22 + 12 + g)) 0 1000000 = true) ∧ spnB (p (r * 22 + 18)) (p (r * 22 + 19)) 100000 = true ∧ spnB (p (r * 22 + 20)) (p (r * 22 + 21)) 10000000000 = true
def restP (p : Vec) : Prop := wiB (p 110) 0 1000000 = true ∧ wiB (p 111) 0 1000000 = true ∧ spnB (p 112) (p 113) 1000000 = true ∧ wiB (p 114) 0 10000000000 = true ∧ wiB (p 115) 0 100000 = true ∧ wiB (p 116) 0 100000 = true
theorem vPul_good {p : Vec} (h : VPul p) {r : Nat} (hr : r < 5) : goodR p r := ⟨fun g hg => ⟨spnB_iff.2 (h.bd r hr g hg), wiB_iff.2 (h.rm r hr g hg)⟩, spnB_iff.2 (h.sc r hr), spnB_iff.2 (h.ln r hr)⟩
theorem vPul_rest {p : Vec} (h : VPul p) : restP p := ⟨wiB_iff.2 h.grow, wiB_iff.2 h.shrink, spnB_iff.2 h.lim, wiB_iff.2 h.slip, wiB_iff.2 h.hold, wiB_iff.2 h.grace⟩
theorem vPul_mk {p : Vec} (h : ∀ r, r < 5 → goodR p r) (h2 : restP p) : VPul p where
  bd := fun r hr g hg => spnB_iff.1 ((h r hr).1 g hg).1
  rm := fun r hr g hg => wiB_iff.1 ((h r hr).1 g hg).2
  sc := fun r hr => spnB_iff.1 (h r hr).2.1
  ln := fun r hr => spnB_iff.1 (h r hr).2.2
  grow := wiB_iff.1 h2.1
  shrink := wiB_iff.1 h2.2.1
  lim := spnB_iff.1 h2.2.2.1
  slip := wiB_iff.1 h2.2.2.2.1
  hold := wiB_iff.1 h2.2.2.2.2.1
  grace := wiB_iff.1 h2.2.2.2.2.2
theorem ff_tt {b : Bool} (h : b = false) (h' : b = true) : False := by rw [h] at h'; cases h'
set_option maxRecDepth 100000 in
set_option maxHeartbeats 2000000 in
theorem refPuller_any (p : Vec) (w : World) : Calls Try.prog 16 #[.agg (ia 117 p)] w fun e w' => e = .returned (.bool (okPuller p)) ∧ Below w.heap.size w w' := by
  obtain ⟨W1, hW1⟩ : ∃ W1, W1 = w.alloc (.cells (ia 117 p) 30) := ⟨_, rfl⟩
  have HP : Hid (∀ W, Le W1 W → ∀ j, j < 117 → W.cell? ⟨w.heap.size, j, none⟩ = some (I (p j))) := fun W hW j hj => by
    have h : W1.cell? ⟨w.heap.size, j, none⟩ = some (I (p j)) := by rw [hW1, cell_of_row _ _ _ _ _ _ (heap_last _ _ _ rfl)]; exact ia_get hj
    exact (Below.cell hW (p := ⟨_, _, none⟩) (block_lt_of_cell h)).trans h
  have hb : Hid (∀ W, Le W1 W → Below w.heap.size w W) := fun W hW => by rw [hW1] at hW; exact under2 hW
  have HW := Lib.hid hW1
  clear hW1
  go_enter Try.func16, Try.ntmps16
  go_wp2_with fail
  rw [← HW.out]
  go_loopw [3] (fun i wr => ∃ k : Nat, k ≤ 5 ∧ i = .int .i64 k ∧ (∀ r, r < k → goodR p r) ∧ Le W1 wr) (fun i _ => 5 - (intOf i).toNat)
  case atStart => exact ⟨0, by omega, rfl, fun j hj => absurd hj (by omega), Le.refl _⟩
  case round =>
    obtain ⟨k, hk, rfl, hs, hbw⟩ := hrel
    have Hs := Lib.hid hs
    have HB := Lib.hid hbw
    have hk5 : (k : Int) ≤ 5 := by omega
    clear hs hbw
    by_cases hlt : k < 5
    · have hki : (k : Int) < 5 := by omega
      go_wp2_with (first | (refine wpList_load_ia rfl 27 _ rfl w.heap.size (k * 22) rfl 22 (fun i => p (k * 22 + i)) _ (fun j hj => HP.out wr HB.out _ (by omega)) Try.underlying27 rfl (by kernel_rfl) ?_) | (refine wpList_store_new rfl 27 _ _ rfl _ _ wr.heap.size rfl rfl (ia 22 (fun i => p (k * 22 + i))) rfl ia_one (ia_size _ _) soft4 ?_))
      obtain ⟨wo, rfl⟩ : ∃ wo : World, wo = wr := ⟨_, rfl⟩
      obtain ⟨W3, hW3⟩ : ∃ W3, W3 = wo.alloc (.cells (ia 22 (fun i => p (k * 22 + i))) 27) := ⟨_, rfl⟩
      have HR : Hid (∀ W, Le W3 W → ∀ j, j < 22 → W.cell? ⟨wo.heap.size, j, none⟩ = some (I (p (k * 22 + j)))) := fun W hW j hj => by
        have h : W3.cell? ⟨wo.heap.size, j, none⟩ = some (I (p (k * 22 + j))) := by rw [hW3, cell_of_row _ _ _ _ _ _ (heap_last _ _ _ rfl)]; exact ia_get hj
        exact (Below.cell hW (p := ⟨_, _, none⟩) (block_lt_of_cell h)).trans h
      have hb3 : Hid (∀ W, Le W3 W → Le W1 W) := fun W hW => HB.out.trans (by rw [hW3] at hW; exact under2 hW)
      rw [← hW3]
      have HW3 := Lib.hid hW3
      clear hW3
      go_loopw [5] (fun i wq => ∃ g : Nat, g ≤ 6 ∧ i = .int .i64 g ∧ (∀ j, j < g → spnB (p (k * 22 + j * 2)) (p (k * 22 + j * 2 + 1)) 1000000 = true ∧ wiB (p (k * 22 + 12 + j)) 0 1000000 = true) ∧ Le W3 wq) (fun i _ => 6 - (intOf i).toNat)
      case atStart => exact ⟨0, by omega, rfl, fun j hj => absurd hj (by omega), Le.refl _⟩
      case round =>
        obtain ⟨g, hg, rfl, hq, hbq⟩ := hrel
        have Hq := Lib.hid hq
        have HQ := Lib.hid hbq
        have hg6 : (g : Int) ≤ 6 := by omega
        clear hq hbq
        by_cases hlg : g < 6
        · have hgi : (g : Int) < 6 := by omega
          have x0 : wr.cell? ⟨wo.heap.size, g * 2, none⟩ = some (I (p (k * 22 + g * 2))) := HR.out wr HQ.out _ (by omega)
          have x1 : wr.cell? ⟨wo.heap.size, g * 2 + 1, none⟩ = some (I (p (k * 22 + g * 2 + 1))) := HR.out wr HQ.out _ (by omega)
          go_wp2_with fail
          refine (span_any _ _ _ _).mono ?_
          rintro e w1 ⟨rfl, hb1⟩
          have HQ1 : Hid (Le W3 w1) := HQ.out.trans hb1
          clear hb1 x0 x1
          rcases hsp : spnB (p (k * 22 + g * 2)) (p (k * 22 + g * 2 + 1)) 1000000 with _ | _
          · have hf : Hid (okPuller p = false) := okPuller_no' fun hv => ff_tt hsp ((vPul_good hv hlt).1 g hlg).1
            clear hsp
            go_wp2_with fail
            go_ret
            exact ⟨by rw [hf.out]; rfl, hb.out _ (hb3.out _ HQ1.out)⟩
          · have Hsp := Lib.hid hsp
            have x2 : w1.cell? ⟨wo.heap.size, 12 + g, none⟩ = some (I (p (k * 22 + 12 + g))) := by rw [HR.out w1 HQ1.out _ (by omega), show k * 22 + (12 + g) = k * 22 + 12 + g by omega]
            clear hsp
            go_wp2_with fail
            refine (within_any _ _ _ _).mono ?_
            rintro e w2 ⟨rfl, hb2⟩
            have HQ2 : Hid (Le W3 w2) := HQ1.out.trans hb2
            clear hb2 x2
            rcases hwi : wiB (p (k * 22 + 12 + g)) 0 1000000 with _ | _
            · have hf : Hid (okPuller p = false) := okPuller_no' fun hv => ff_tt hwi ((vPul_good hv hlt).1 g hlg).2
              clear hwi
              go_wp2_with fail
              go_ret
              exact ⟨by rw [hf.out]; rfl, hb.out _ (hb3.out _ HQ2.out)⟩
            · have hcase : Hid (∀ j, j < g + 1 → spnB (p (k * 22 + j * 2)) (p (k * 22 + j * 2 + 1)) 1000000 = true ∧ wiB (p (k * 22 + 12 + j)) 0 1000000 = true) := succ_case Hq.out ⟨Hsp.out, hwi⟩
              clear hwi
              go_wp2_with fail
              go_roundw
              case rel => exact ⟨g + 1, by omega, by go_num, hcase.out, HQ2.out⟩
              case measure => simp [intOf]; omega
        · obtain rfl : g = 6 := by omega
          have x0 : wr.cell? ⟨wo.heap.size, 18, none⟩ = some (I (p (k * 22 + 18))) := HR.out wr HQ.out _ (by omega)
          have x1 : wr.cell? ⟨wo.heap.size, 19, none⟩ = some (I (p (k * 22 + 19))) := HR.out wr HQ.out _ (by omega)
          go_wp2_with fail
          refine (span_any _ _ _ _).mono ?_
          rintro e w1 ⟨rfl, hb1⟩
          have HQ1 : Hid (Le W3 w1) := HQ.out.trans hb1
          clear hb1 x0 x1
          rcases hsp : spnB (p (k * 22 + 18)) (p (k * 22 + 19)) 100000 with _ | _
          · have hf : Hid (okPuller p = false) := okPuller_no' fun hv => ff_tt hsp (vPul_good hv hlt).2.1
            clear hsp
            go_wp2_with fail
            go_ret
            exact ⟨by rw [hf.out]; rfl, hb.out _ (hb3.out _ HQ1.out)⟩
          · have Hsp := Lib.hid hsp
            have x2 : w1.cell? ⟨wo.heap.size, 20, none⟩ = some (I (p (k * 22 + 20))) := HR.out w1 HQ1.out _ (by omega)
            have x3 : w1.cell? ⟨wo.heap.size, 21, none⟩ = some (I (p (k * 22 + 21))) := HR.out w1 HQ1.out _ (by omega)
            clear hsp
            go_wp2_with fail
            refine (span_any _ _ _ _).mono ?_
            rintro e w2 ⟨rfl, hb2⟩
            have HQ2 : Hid (Le W3 w2) := HQ1.out.trans hb2
            clear hb2 x2 x3
            rcases hs2 : spnB (p (k * 22 + 20)) (p (k * 22 + 21)) 10000000000 with _ | _
            · have hf : Hid (okPuller p = false) := okPuller_no' fun hv => ff_tt hs2 (vPul_good hv hlt).2.2
              clear hs2
              go_wp2_with fail
              go_ret
              exact ⟨by rw [hf.out]; rfl, hb.out _ (hb3.out _ HQ2.out)⟩
            · have hcase : Hid (∀ r, r < k + 1 → goodR p r) := succ_case Hs.out ⟨Hq.out, Hsp.out, hs2⟩
              clear hs2
              go_wp2_with fail
              go_roundw
              case rel => exact ⟨k + 1, by omega, by go_num, hcase.out, hb3.out _ HQ2.out⟩
              case measure => simp [intOf]; omega
    · obtain rfl : k = 5 := by omega
      have x110 : wr.cell? ⟨w.heap.size, 110, none⟩ = some (I (p 110)) := HP.out wr HB.out _ (by omega)
      go_wp2_with fail
      refine (within_any _ _ _ _).mono ?_
      rintro e v0 ⟨rfl, hb1⟩
      have HV0 : Hid (Le W1 v0) := HB.out.trans hb1
      clear hb1 x110
      rcases hc0 : wiB (p 110) 0 1000000 with _ | _
      · have hf : Hid (okPuller p = false) := okPuller_no' fun hv => ff_tt hc0 (vPul_rest hv).1
        clear hc0
        go_wp2_with fail
        go_ret
        exact ⟨by rw [hf.out]; rfl, hb.out _ HV0.out⟩
      have Hc0 := Lib.hid hc0
      clear hc0
      have x111 : v0.cell? ⟨w.heap.size, 111, none⟩ = some (I (p 111)) := HP.out v0 HV0.out _ (by omega)
      go_wp2_with fail
      refine (within_any _ _ _ _).mono ?_
      rintro e v1 ⟨rfl, hb1⟩
      have HV1 : Hid (Le W1 v1) := HV0.out.trans hb1
      clear hb1 x111
      rcases hc1 : wiB (p 111) 0 1000000 with _ | _
      · have hf : Hid (okPuller p = false) := okPuller_no' fun hv => ff_tt hc1 (vPul_rest hv).2.1
        clear hc1
        go_wp2_with fail
        go_ret
        exact ⟨by rw [hf.out]; rfl, hb.out _ HV1.out⟩
      have Hc1 := Lib.hid hc1
      clear hc1
      have x112 : v1.cell? ⟨w.heap.size, 112, none⟩ = some (I (p 112)) := HP.out v1 HV1.out _ (by omega)
      have x113 : v1.cell? ⟨w.heap.size, 113, none⟩ = some (I (p 113)) := HP.out v1 HV1.out _ (by omega)
      go_wp2_with fail
      refine (span_any _ _ _ _).mono ?_
      rintro e v2 ⟨rfl, hb1⟩
      have HV2 : Hid (Le W1 v2) := HV1.out.trans hb1
      clear hb1 x112 x113
      rcases hc2 : spnB (p 112) (p 113) 1000000 with _ | _
      · have hf : Hid (okPuller p = false) := okPuller_no' fun hv => ff_tt hc2 (vPul_rest hv).2.2.1
        clear hc2
        go_wp2_with fail
        go_ret
        exact ⟨by rw [hf.out]; rfl, hb.out _ HV2.out⟩
      have Hc2 := Lib.hid hc2
      clear hc2
      have x114 : v2.cell? ⟨w.heap.size, 114, none⟩ = some (I (p 114)) := HP.out v2 HV2.out _ (by omega)
      go_wp2_with fail
      refine (within_any _ _ _ _).mono ?_
      rintro e v3 ⟨rfl, hb1⟩
      have HV3 : Hid (Le W1 v3) := HV2.out.trans hb1
      clear hb1 x114
      rcases hc3 : wiB (p 114) 0 10000000000 with _ | _
      · have hf : Hid (okPuller p = false) := okPuller_no' fun hv => ff_tt hc3 (vPul_rest hv).2.2.2.1
        clear hc3
        go_wp2_with fail
        go_ret
        exact ⟨by rw [hf.out]; rfl, hb.out _ HV3.out⟩
      have Hc3 := Lib.hid hc3
      clear hc3
      have x115 : v3.cell? ⟨w.heap.size, 115, none⟩ = some (I (p 115)) := HP.out v3 HV3.out _ (by omega)
      go_wp2_with fail
      refine (within_any _ _ _ _).mono ?_
      rintro e v4 ⟨rfl, hb1⟩
      have HV4 : Hid (Le W1 v4) := HV3.out.trans hb1
      clear hb1 x115
      rcases hc4 : wiB (p 115) 0 100000 with _ | _
      · have hf : Hid (okPuller p = false) := okPuller_no' fun hv => ff_tt hc4 (vPul_rest hv).2.2.2.2.1
        clear hc4
        go_wp2_with fail
        go_ret
        exact ⟨by rw [hf.out]; rfl, hb.out _ HV4.out⟩
      have Hc4 := Lib.hid hc4
      clear hc4
      have x116 : v4.cell? ⟨w.heap.size, 116, none⟩ = some (I (p 116)) := HP.out v4 HV4.out _ (by omega)
      go_wp2_with fail
      refine (within_any _ _ _ _).mono ?_
      rintro e v5 ⟨rfl, hb1⟩
      have HV5 : Hid (Le W1 v5) := HV4.out.trans hb1
      clear hb1 x116
      rcases hc5 : wiB (p 116) 0 100000 with _ | _
      · have hf : Hid (okPuller p = false) := okPuller_no' fun hv => ff_tt hc5 (vPul_rest hv).2.2.2.2.2
        clear hc5
        go_wp2_with fail
        go_ret
        exact ⟨by rw [hf.out]; rfl, hb.out _ HV5.out⟩
      have Hc5 := Lib.hid hc5
      clear hc5
      have hf : Hid (okPuller p = true) := okPuller_of (vPul_mk Hs.out ⟨Hc0.out, Hc1.out, Hc2.out, Hc3.out, Hc4.out, Hc5.out⟩)
      go_wp2_with fail
      go_ret
      exact ⟨by rw [hf.out]; rfl, hb.out _ HV5.out⟩
end Go.Proofs.Ytlebefopdnadaaa
