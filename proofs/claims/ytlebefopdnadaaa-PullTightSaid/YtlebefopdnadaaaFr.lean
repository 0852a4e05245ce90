/- Slices that lie from a block on: what stays of them behind a store into an older block; the contract of own, with where its lists lie. -/
import Derived.Test.YtlebefopdnadaaaHs
namespace Go.Proofs.Ytlebefopdnadaaa
open Go.RowKit
/-- A slice that can be read, and lies from block base on. -/
structure FR (base : Nat) (w : World) (sz : Nat) (A : Option Addr) (n : Nat) (g : Nat → Nat → Value) : Prop where
  rd : Rd w w.heap.size sz A n g
  at_ : 0 < n → ∃ b o, A = some ⟨b, o, none⟩ ∧ base ≤ b
theorem FR.below {base : Nat} {w w' : World} {sz n : Nat} {A : Option Addr} {g : Nat → Nat → Value} (h : FR base w sz A n g) (hb : Below w.heap.size w w') : FR base w' sz A n g :=
  ⟨(h.rd.below hb).more hb.size, h.at_⟩
theorem FR.low {base base' : Nat} {w : World} {sz n : Nat} {A : Option Addr} {g : Nat → Nat → Value} (h : FR base w sz A n g) (hb : base' ≤ base) : FR base' w sz A n g :=
  ⟨h.rd, fun h0 => by obtain ⟨b, o, e, hl⟩ := h.at_ h0; exact ⟨b, o, e, by omega⟩⟩
theorem FR.set {base : Nat} {w : World} {sz n : Nat} {A : Option Addr} {g : Nat → Nat → Value} (h : FR base w sz A n g) {q : Nat} (hq : q < base) (cs : Array Value) : FR base (w.setRow q cs) sz A n g := by
  refine ⟨fun h0 => ?_, h.at_⟩
  obtain ⟨b, o, hA, hlt, hc⟩ := h.rd h0
  obtain ⟨b2, o2, hA2, hB⟩ := h.at_ h0
  have hbb : b = b2 := by rw [hA] at hA2; injection hA2 with e; injection e
  subst hbb
  refine ⟨b, o, hA, by rw [setRow_size]; exact hlt, fun k hk j hj => ?_⟩
  rw [← hc k hk j hj]
  unfold World.cell?
  rw [setRow_other (show b ≠ q by omega)]
theorem FR.of_own {w : World} {base sz n : Nat} {e : TypeId} {v : Value} {g : Nat → Nat → Value} (h : w.ownsRow base e sz v n (flat sz g n)) : ∃ A c, v = .slice A n c ∧ n ≤ c ∧ FR base w sz A n g := by
  obtain ⟨A, c, hv, hc, hr⟩ := Rd.of_own_cap h
  refine ⟨A, c, hv, hc, hr, fun h0 => ?_⟩
  rcases h.2 with ⟨hq, hn⟩ | ⟨q, cap, cur, hq, hqb, _⟩
  · rw [hv] at hq; injection hq with _ e1; omega
  · rw [hv] at hq
    injection hq with e1
    exact ⟨q, 0, e1, hqb⟩
/-- The lists of a run lie from block base on. -/
structure FRun (base : Nat) (w : World) (A1 A2 A3 : Option Addr) (R : Run) : Prop where
  s : FR base w 8 A1 R.ss.length (rS R.ss)
  m : FR base w 3 A2 R.ms.length (rM R.ms)
  e : FR base w 2 A3 R.es.length (rE R.es)
  ls : R.ss.length ≤ 1000000
  lm : R.ms.length ≤ 1000000
  le : R.es.length ≤ 1000000
theorem FRun.run {base : Nat} {w : World} {A1 A2 A3 : Option Addr} {R : Run} (h : FRun base w A1 A2 A3 R) : RunIn w A1 A2 A3 R := ⟨h.s.rd, h.m.rd, h.e.rd, h.ls, h.lm, h.le⟩
theorem FRun.below {base : Nat} {w w' : World} {A1 A2 A3 : Option Addr} {R : Run} (h : FRun base w A1 A2 A3 R) (hb : Below w.heap.size w w') : FRun base w' A1 A2 A3 R :=
  ⟨h.s.below hb, h.m.below hb, h.e.below hb, h.ls, h.lm, h.le⟩
theorem FRun.set {base : Nat} {w : World} {A1 A2 A3 : Option Addr} {R : Run} (h : FRun base w A1 A2 A3 R) {q : Nat} (hq : q < base) (cs : Array Value) : FRun base (w.setRow q cs) A1 A2 A3 R :=
  ⟨h.s.set hq cs, h.m.set hq cs, h.e.set hq cs, h.ls, h.lm, h.le⟩
theorem FRun.low {base base' : Nat} {w : World} {A1 A2 A3 : Option Addr} {R : Run} (h : FRun base w A1 A2 A3 R) (hb : base' ≤ base) : FRun base' w A1 A2 A3 R :=
  ⟨h.s.low hb, h.m.low hb, h.e.low hb, h.ls, h.lm, h.le⟩
def RetOwnF (w : World) (R : Run) (e : Ending) (w' : World) : Prop := ∃ A1 A2 A3 c1 c2 c3, e = .returned (runV A1 A2 A3 c1 c2 c3 R) ∧ FRun w.heap.size w' A1 A2 A3 R ∧ R.ms.length ≤ c2 ∧ Below w.heap.size w w'
theorem SlAt.setF {B0 base sz n c : Nat} {A : Option Addr} {g : Nat → Nat → Value} {w : World} (h : SlAt B0 sz n g (.slice A n c) w) {q : Nat} (hq : q < B0) (hb : base ≤ B0) (cs : Array Value) : FR base (w.setRow q cs) sz A n g := by
  refine ⟨(h.set hq cs).2, fun h0 => ?_⟩
  obtain ⟨A', c', hu, hn, hr, hl⟩ := h
  injection hu with e1 e2 e3
  subst e1
  obtain ⟨b, o, e, hl⟩ := hl h0
  exact ⟨b, o, e, by omega⟩
set_option maxRecDepth 100000 in
set_option maxHeartbeats 1000000 in
theorem ownF_any (A1 A2 A3 : Option Addr) (c1 c2 c3 : Nat) (R : Run) (w : World) (h : RunIn w A1 A2 A3 R) : Calls Try.prog 15 #[runV A1 A2 A3 c1 c2 c3 R] w (RetOwnF w R) := by
  obtain ⟨W1, hW1⟩ : ∃ W1, W1 = (w.alloc (.cells #[.slice A1 R.ss.length c1, I R.e, .slice A2 R.ms.length c2, .slice A3 R.es.length c3] 35)).alloc (.cells #[.slice none 0 0, I 0, .slice none 0 0, .slice none 0 0] 35) := ⟨_, rfl⟩
  have hrun : RunIn W1 A1 A2 A3 R := by rw [hW1]; exact (h.alloc _).alloc _
  have y0 : W1.cell? ⟨w.heap.size, 0, none⟩ = some (.slice A1 R.ss.length c1) := by rw [hW1]; simp
  have y1 : W1.cell? ⟨w.heap.size, 1, none⟩ = some (I R.e) := by rw [hW1]; simp
  have y2 : W1.cell? ⟨w.heap.size, 2, none⟩ = some (.slice A2 R.ms.length c2) := by rw [hW1]; simp
  have y3 : W1.cell? ⟨w.heap.size, 3, none⟩ = some (.slice A3 R.es.length c3) := by rw [hW1]; simp
  have z0 := ovr_cell y0
  have z1 := ovr_cell y1
  have z2 := ovr_cell y2
  have z3 := ovr_cell y3
  have HR : Hid (W1.heap[w.heap.size + 1]? = some (.cells #[.slice none 0 0, I 0, .slice none 0 0, .slice none 0 0] 35 (0, 0))) := by show W1.heap[_]? = _; rw [hW1]; exact heap_last _ _ _ (by simp)
  have HU : Hid (∀ W, Below W1.heap.size W1 W → Below w.heap.size w W) := fun W hW => by rw [hW1] at hW; exact under2 (under2 hW)
  have HW := Lib.hid hW1
  have Hrun := Lib.hid hrun
  obtain ⟨ls, lm, le⟩ : R.ss.length ≤ 1000000 ∧ R.ms.length ≤ 1000000 ∧ R.es.length ≤ 1000000 := ⟨h.ls, h.lm, h.le⟩
  obtain ⟨i1, hi1, iz1, is1, ib1⟩ := info_parts stg_info
  obtain ⟨i2, hi2, iz2, is2, ib2⟩ := info_parts smp_info
  obtain ⟨i3, hi3, iz3, is3, ib3⟩ := info_parts evt_info
  clear h hW1 hrun y0 y1 y2 y3
  go_enter Try.func15, Try.ntmps15
  go_wp2_with fail
  rw [← HW.out]
  refine wp_region_make_last (fun j => if j = 0 ∨ j = 6 ∨ j = 10 then some Emp else if j = 3 then some (SlAt W1.heap.size 8 R.ss.length (rS R.ss)) else if j = 9 then some (SlAt W1.heap.size 3 R.ms.length (rM R.ms)) else if j = 13 then some (SlAt W1.heap.size 2 R.es.length (rE R.es)) else none) (by kernel_rfl) (by kernel_rfl) (by kernel_rfl) (by kernel_rfl) rfl ?_
  simp only [skipLast_two, skipLast_one, lastOf_two, lastOf_one]
  refine wpG_make Emp rfl rfl (fun w' hw' _ => ?_) (fun u hu => ?_)
  · go_simp
    exact emp_grow _
  obtain ⟨_, _, b1, rfl⟩ := hu
  simp only [Act.put, List.setIfInBounds_toArray, List.set_cons_zero, List.set_cons_succ]
  repeat (refine wpG_one rfl rfl rfl ?_; intro K hK; go_big_quiet_op; go_big_quiet_on)
  refine wpG_make (SlAt W1.heap.size 8 R.ss.length (rS R.ss)) rfl rfl (fun w' hw' _ => ?_) (fun u hu => ?_)
  · exact app_grow _ _ 31 rfl 73 i1 _ 8 64 Try.underlying31 hi1 iz1 is1 ib1 rfl (by decide) b1 rfl A1 R.ss.length c1 rfl _ ((Hrun.out.s.below hw'.le).more hw'.le.size) ls (by decide) hw'.le.size
  obtain ⟨_, _, B1, d1, rfl, hd1, _, _⟩ := hu
  simp only [Act.put, List.setIfInBounds_toArray, List.set_cons_zero, List.set_cons_succ]
  repeat (refine wpG_one rfl rfl rfl ?_; intro K hK; go_big_quiet_op; go_big_quiet_on)
  refine wpG_make Emp rfl rfl (fun w' hw' _ => ?_) (fun u hu => ?_)
  · go_simp
    exact emp_grow _
  obtain ⟨_, _, b2, rfl⟩ := hu
  simp only [Act.put, List.setIfInBounds_toArray, List.set_cons_zero, List.set_cons_succ]
  repeat (refine wpG_one rfl rfl rfl ?_; intro K hK; go_big_quiet_op; go_big_quiet_on)
  refine wpG_make (SlAt W1.heap.size 3 R.ms.length (rM R.ms)) rfl rfl (fun w' hw' _ => ?_) (fun u hu => ?_)
  · exact app_grow _ _ 32 rfl 75 i2 _ 3 24 Try.underlying32 hi2 iz2 is2 ib2 rfl (by decide) b2 rfl A2 R.ms.length c2 rfl _ ((Hrun.out.m.below hw'.le).more hw'.le.size) lm (by decide) hw'.le.size
  obtain ⟨_, _, B2, d2, rfl, hd2, _, _⟩ := hu
  simp only [Act.put, List.setIfInBounds_toArray, List.set_cons_zero, List.set_cons_succ]
  repeat (refine wpG_one rfl rfl rfl ?_; intro K hK; go_big_quiet_op; go_big_quiet_on)
  refine wpG_make Emp rfl rfl (fun w' hw' _ => ?_) (fun u hu => ?_)
  · go_simp
    exact emp_grow _
  obtain ⟨_, _, b3, rfl⟩ := hu
  simp only [Act.put, List.setIfInBounds_toArray, List.set_cons_zero, List.set_cons_succ]
  repeat (refine wpG_one rfl rfl rfl ?_; intro K hK; go_big_quiet_op; go_big_quiet_on)
  refine wpG_make (SlAt W1.heap.size 2 R.es.length (rE R.es)) rfl rfl (fun w' hw' _ => ?_) (fun u hu => ?_)
  · exact app_grow _ _ 33 rfl 77 i3 _ 2 16 Try.underlying33 hi3 iz3 is3 ib3 rfl (by decide) b3 rfl A3 R.es.length c3 rfl _ ((Hrun.out.e.below hw'.le).more hw'.le.size) le (by decide) hw'.le.size
  obtain ⟨_, _, B3, d3, rfl, hd3, _, _⟩ := hu
  simp only [Act.put, List.setIfInBounds_toArray, List.set_cons_zero, List.set_cons_succ]
  repeat (refine wpG_one rfl rfl rfl ?_; intro K hK; go_big_quiet_op; go_big_quiet_on)
  refine wpG_nil (fun w5 hw5 hG => ?_)
  have hr1 := (hw5.le.block _ (Array.getElem?_eq_some_iff.1 HR.out).1).trans HR.out
  have hz1 : Hid (W1.heap.size = w.heap.size + 1 + 1) := by show _ = _; rw [HW.out]; simp
  obtain ⟨⟨⟨⟨⟨⟨_, _⟩, g1⟩, _⟩, g2⟩, _⟩, g3⟩ := hG
  have hfin : Hid (FRun w.heap.size (w5.setRow (w.heap.size + 1) #[.slice B1 R.ss.length d1, I R.e, .slice B2 R.ms.length d2, .slice B3 R.es.length d3]) B1 B2 B3 R) :=
    ⟨g1.now.setF (by have := hz1.out; omega) (by have := hz1.out; omega) _, g2.now.setF (by have := hz1.out; omega) (by have := hz1.out; omega) _, g3.now.setF (by have := hz1.out; omega) (by have := hz1.out; omega) _, ls, lm, le⟩
  have hbe : Hid (Below w.heap.size w (w5.setRow (w.heap.size + 1) #[.slice B1 R.ss.length d1, I R.e, .slice B2 R.ms.length d2, .slice B3 R.es.length d3])) := below_setRow (HU.out _ hw5.le) (by omega) _
  refine wp_store_row 35 _ _ rfl (w.heap.size + 1) rfl _ _ hr1 #[.slice B1 R.ss.length d1, I R.e, .slice B2 R.ms.length d2, .slice B3 R.es.length d3] rfl (by intro v hv; simp at hv; rcases hv with rfl | rfl | rfl | rfl <;> rfl) rfl (by kernel_rfl) ?_
  clear g1 g2 g3
  go_wp2_with fail
  refine bodyPost_ret (results_cell_only rfl _ _ (w.heap.size + 1) 35 #[.slice B1 R.ss.length d1, I R.e, .slice B2 R.ms.length d2, .slice B3 R.es.length d3] (0, 0) _ rfl (setRow_same hr1) Try.underlying35 rfl (by kernel_rfl)) rfl ?_
  exact ⟨B1, B2, B3, d1, d2, d3, rfl, hfin.out, hd2, hbe.out⟩
end Go.Proofs.Ytlebefopdnadaaa
