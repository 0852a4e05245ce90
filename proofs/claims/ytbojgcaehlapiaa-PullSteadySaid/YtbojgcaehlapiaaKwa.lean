/- What the document's examples come to. -/
import Derived.Test.YtbojgcaehlapiaaSoa
import Derived.Test.YtbojgcaehlapiaaSpa
import Derived.Test.YtbojgcaehlapiaaRpa
import Derived.Test.YtbojgcaehlapiaaMka
namespace Go.Proofs.Ytbojgcaehlapiaa
open Go.RowKit
def kv (a : Int) : Vec := fun i => if i = 0 then a else 0
def kR1 : Run := ⟨[⟨0, 1, kv 20⟩, ⟨100, 1, kv 10⟩], 200, [], [⟨50, 4⟩, ⟨61, 5⟩]⟩
def kR2 : Run := ⟨[⟨0, 4, kv 10⟩], 6, [⟨0, 100, 100⟩, ⟨6, 100, 100⟩], []⟩
theorem k1 : grownN kR1 0 200 = 3000 ∧ grownE kR1 0 200 = 0 := by decide +kernel
theorem k2 : reachN kR1 2001 = 101 ∧ reachE kR1 2001 = 0 := by decide +kernel
theorem k3 : (okPuller softV && okRun kR1) = true := by decide +kernel
theorem k4 : stopS softV kR1 = (60, 4) := by decide +kernel
theorem k5 : (okPuller softV && okRun kR2) = true := by decide +kernel
theorem k6 : tellE softV kR2 4 6 = 0 ∧ tellR softV kR2 4 6 (atK softV kR2 4) = ⟨96, 102⟩ := by decide +kernel
theorem k7 : tellE softV kR2 1 5 = 0 ∧ tellR softV kR2 1 5 (fromK softV kR2 1) = ⟨98, 104⟩ := by decide +kernel
theorem k8 : chE softV kR2 = 0 ∧ acL softV kR2 = [⟨0, 2⟩, ⟨5, 5⟩] := by decide +kernel
theorem k9 : soldL softV kR2 = [⟨0, 30⟩, ⟨50, 60⟩] := by decide +kernel
theorem k10 : obB softV kR1 = ⟨6, 0, 0⟩ := by decide +kernel
end Go.Proofs.Ytbojgcaehlapiaa
/- The document's examples hold: the contract of known of the statements' package. -/
namespace Go.Proofs.Ytbojgcaehlapiaa
open Go.RowKit
theorem wp_assign {P : Program} {o : Oper} {a : Act} {w : World} {K : Act → World → Prop} {Q : Exit → Act → World → Prop} (x : Operand) (v : Value) (ho : o.op = .assign x) (hv : a.eval x = v) (h : K (a.put o.dst v) w) : o.wp P a w K Q := by
  unfold Oper.wp execOp
  simp only [ho, hv, Sem.run_pure]
  exact h
theorem Cl.set {W0 w : World} (h : Cl W0 w) {b : Nat} (hb : W0.heap.size ≤ b) (cs : Array Value) : Cl W0 (w.setRow b cs) := Cl.of (below_setRow h.le hb _)
theorem all8 {P : Nat → Prop} (h0 : P 0) (h1 : P 1) (h2 : P 2) (h3 : P 3) (h4 : P 4) (h5 : P 5) (h6 : P 6) (h7 : P 7) : ∀ k, k < 8 → P k
  | 0, _ => h0 | 1, _ => h1 | 2, _ => h2 | 3, _ => h3 | 4, _ => h4 | 5, _ => h5 | 6, _ => h6 | 7, _ => h7
theorem all3 {P : Nat → Prop} (h0 : P 0) (h1 : P 1) (h2 : P 2) : ∀ k, k < 3 → P k
  | 0, _ => h0 | 1, _ => h1 | 2, _ => h2
def kS1 : Array Value := #[I 0, I 1, I 20, I 0, I 0, I 0, I 0, I 0, I 100, I 1, I 10, I 0, I 0, I 0, I 0, I 0]
def kE1 : Array Value := #[I 50, I 4, I 61, I 5]
def kS2 : Array Value := #[I 0, I 4, I 10, I 0, I 0, I 0, I 0, I 0]
def kM2 : Array Value := #[I 0, I 100, I 100, I 6, I 100, I 100]
abbrev r1A (s e : Nat) : Array Value := #[.slice (some ⟨s, 0, none⟩) 2 2, I 200, .slice none 0 0, .slice (some ⟨e, 0, none⟩) 2 2]
abbrev r2A (s m : Nat) : Array Value := #[.slice (some ⟨s, 0, none⟩) 1 1, I 6, .slice (some ⟨m, 0, none⟩) 2 2, .slice none 0 0]
theorem kIn1 {W : World} {s e : Nat} (hs : W.heap[s]? = some (.cells kS1 37 (0, 0))) (he : W.heap[e]? = some (.cells kE1 74 (0, 0))) : RunIn W (some ⟨s, 0, none⟩) none (some ⟨e, 0, none⟩) kR1 where
  s := fun _ => ⟨s, 0, rfl, (Array.getElem?_eq_some_iff.1 hs).1, all2 (all8 (by rw [cell_of_row _ _ _ _ _ _ hs]; rfl) (by rw [cell_of_row _ _ _ _ _ _ hs]; rfl) (by rw [cell_of_row _ _ _ _ _ _ hs]; rfl) (by rw [cell_of_row _ _ _ _ _ _ hs]; rfl) (by rw [cell_of_row _ _ _ _ _ _ hs]; rfl) (by rw [cell_of_row _ _ _ _ _ _ hs]; rfl) (by rw [cell_of_row _ _ _ _ _ _ hs]; rfl) (by rw [cell_of_row _ _ _ _ _ _ hs]; rfl)) (all8 (by rw [cell_of_row _ _ _ _ _ _ hs]; rfl) (by rw [cell_of_row _ _ _ _ _ _ hs]; rfl) (by rw [cell_of_row _ _ _ _ _ _ hs]; rfl) (by rw [cell_of_row _ _ _ _ _ _ hs]; rfl) (by rw [cell_of_row _ _ _ _ _ _ hs]; rfl) (by rw [cell_of_row _ _ _ _ _ _ hs]; rfl) (by rw [cell_of_row _ _ _ _ _ _ hs]; rfl) (by rw [cell_of_row _ _ _ _ _ _ hs]; rfl))⟩
  m := Rd.nil
  e := fun _ => ⟨e, 0, rfl, (Array.getElem?_eq_some_iff.1 he).1, all2 (all2 (by rw [cell_of_row _ _ _ _ _ _ he]; rfl) (by rw [cell_of_row _ _ _ _ _ _ he]; rfl)) (all2 (by rw [cell_of_row _ _ _ _ _ _ he]; rfl) (by rw [cell_of_row _ _ _ _ _ _ he]; rfl))⟩
  ls := by decide
  lm := by decide
  le := by decide
theorem kIn2 {W : World} {s m : Nat} (hs : W.heap[s]? = some (.cells kS2 37 (0, 0))) (hm : W.heap[m]? = some (.cells kM2 82 (0, 0))) : RunIn W (some ⟨s, 0, none⟩) (some ⟨m, 0, none⟩) none kR2 where
  s := fun _ => ⟨s, 0, rfl, (Array.getElem?_eq_some_iff.1 hs).1, all1 (all8 (by rw [cell_of_row _ _ _ _ _ _ hs]; rfl) (by rw [cell_of_row _ _ _ _ _ _ hs]; rfl) (by rw [cell_of_row _ _ _ _ _ _ hs]; rfl) (by rw [cell_of_row _ _ _ _ _ _ hs]; rfl) (by rw [cell_of_row _ _ _ _ _ _ hs]; rfl) (by rw [cell_of_row _ _ _ _ _ _ hs]; rfl) (by rw [cell_of_row _ _ _ _ _ _ hs]; rfl) (by rw [cell_of_row _ _ _ _ _ _ hs]; rfl))⟩
  m := fun _ => ⟨m, 0, rfl, (Array.getElem?_eq_some_iff.1 hm).1, all2 (all3 (by rw [cell_of_row _ _ _ _ _ _ hm]; rfl) (by rw [cell_of_row _ _ _ _ _ _ hm]; rfl) (by rw [cell_of_row _ _ _ _ _ _ hm]; rfl)) (all3 (by rw [cell_of_row _ _ _ _ _ _ hm]; rfl) (by rw [cell_of_row _ _ _ _ _ _ hm]; rfl) (by rw [cell_of_row _ _ _ _ _ _ hm]; rfl))⟩
  e := Rd.nil
  ls := by decide
  lm := by decide
  le := by decide
section
variable {W : World} {s m e : Nat}
theorem kg1 (h : RunIn W (some ⟨s, 0, none⟩) none (some ⟨e, 0, none⟩) kR1) : Calls Try.prog 15 #[.agg (r1A s e), I 0, I 200] W fun e w' => e = .returned (.tuple #[I 3000, I 0]) ∧ Below W.heap.size W w' := by
  have := grown_any _ _ _ 2 0 2 kR1 0 200 W h; rw [k1.1, k1.2] at this; exact this
theorem kg2 (h : RunIn W (some ⟨s, 0, none⟩) none (some ⟨e, 0, none⟩) kR1) : Calls Try.prog 16 #[.agg (r1A s e), I 2001] W fun e w' => e = .returned (.tuple #[I 101, I 0]) ∧ Below W.heap.size W w' := by
  have := reached_any _ _ _ 2 0 2 kR1 2001 W h; rw [k2.1, k2.2] at this; exact this
theorem kg3 (h : RunIn W (some ⟨s, 0, none⟩) none (some ⟨e, 0, none⟩) kR1) : Calls Try.prog 17 #[.agg (ia 117 softV), .agg (r1A s e)] W fun e w' => e = .returned (.tuple #[I 60, I 4, I 0]) ∧ Below W.heap.size W w' := by
  have := stopX_any _ _ _ 2 0 2 softV kR1 W h; rw [k3, k4] at this; exact this
theorem kg4 (h : RunIn W (some ⟨s, 0, none⟩) none (some ⟨e, 0, none⟩) kR1) : Calls Try.prog 9 #[.agg (ia 117 softV), .agg (r1A s e)] W fun e w' => e = .returned (.tuple #[.agg #[I 6, I 0, I 0], I 0]) ∧ Below W.heap.size W w' := by
  have := obeys_any _ _ _ 2 0 2 softV kR1 W h; rw [k3, k10] at this; exact this
theorem kg5 (h : RunIn W (some ⟨s, 0, none⟩) (some ⟨m, 0, none⟩) none kR2) : Calls Try.prog 19 #[.agg (ia 117 softV), .agg (r2A s m), I 4] W fun e w' => e = .returned (.tuple #[.agg #[I 96, I 102], I 0]) ∧ Below W.heap.size W w' := by
  have := diameter_any _ _ _ 1 2 0 softV kR2 4 W h (by decide)
  have e1 : tellE softV kR2 4 kR2.e = 0 := k6.1
  have e2 : tellR softV kR2 4 kR2.e (atK softV kR2 (4 : Int).toNat) = ⟨96, 102⟩ := k6.2
  rw [e1, e2] at this; exact this
theorem kg6 (h : RunIn W (some ⟨s, 0, none⟩) (some ⟨m, 0, none⟩) none kR2) : Calls Try.prog 20 #[.agg (ia 117 softV), .agg (r2A s m), I 1] W fun e w' => e = .returned (.tuple #[.agg #[I 98, I 104], I 0]) ∧ Below W.heap.size W w' := by
  have := betweenX_any _ _ _ 1 2 0 softV kR2 1 W h (by decide)
  have e1 : tellE softV kR2 1 (kR2.e - 1) = 0 := k7.1
  have e2 : tellR softV kR2 1 (kR2.e - 1) (fromK softV kR2 (1 : Int).toNat) = ⟨98, 104⟩ := k7.2
  rw [e1, e2] at this; exact this
theorem kg7 (h : RunIn W (some ⟨s, 0, none⟩) (some ⟨m, 0, none⟩) none kR2) : Calls Try.prog 21 #[.agg (ia 117 softV), .agg (r2A s m)] W (RetL W [⟨0, 2⟩, ⟨5, 5⟩] 0) := by
  have := acceptedX_any _ _ _ 1 2 0 softV kR2 W h (by decide); rw [k8.1, k8.2] at this; exact this
theorem kg8 (h : RunIn W (some ⟨s, 0, none⟩) (some ⟨m, 0, none⟩) none kR2) : Calls Try.prog 22 #[.agg (ia 117 softV), .agg (r2A s m)] W (RetL W [⟨0, 30⟩, ⟨50, 60⟩] 0) := by
  have := soldX_any _ _ _ 1 2 0 softV kR2 W h (by decide); rw [k8.1, k9] at this; exact this
end
end Go.Proofs.Ytbojgcaehlapiaa
/- The document's examples hold: the contract of known of the statements' package. -/
namespace Go.Proofs.Ytbojgcaehlapiaa
open Go.RowKit
/-- A list of ranges and an error, in a tuple. -/
def SlT (l : List Rng) (er : Int) (u : Value) (w : World) : Prop := ∃ A n c, u = .tuple #[.slice A n c, I er] ∧ n = l.length ∧ Rd w w.heap.size 2 A n (rR l)
theorem SlT.at {l : List Rng} {er : Int} {A : Option Addr} {n c : Nat} {w : World} (h : SlT l er (.tuple #[.slice A n c, I er]) w) : n = l.length ∧ Rd w w.heap.size 2 A n (rR l) := by
  obtain ⟨A', n', c', hu, hn, hr⟩ := h
  have e : A = A' ∧ n = n' := by simp at hu; exact ⟨hu.1, hu.2.1⟩
  obtain ⟨rfl, rfl⟩ := e
  exact ⟨hn, hr⟩
theorem retL_grow {P : Program} {f : FuncId} {args : Array Value} {w : World} {l : List Rng} {er : Int} (h : Calls P f args w (RetL w l er)) : Calls P f args w fun e w' => ∃ u, e = .returned u ∧ Le w w' ∧ Box (SlT l er) u w' :=
  h.mono fun _ _ ⟨A, n, c, he, hn, hr, hb⟩ => ⟨_, he, hb, fun _ hl => ⟨A, n, c, rfl, hn, (hr.below hl).more hl.size⟩⟩
set_option maxRecDepth 100000 in
set_option maxHeartbeats 2000000 in
theorem known_any (w : World) : Calls Try.prog 6 #[] w fun e w' => e = .returned (.bool true) ∧ Below w.heap.size w w' := by
  obtain ⟨W1, hW1⟩ : ∃ W1, W1 = ((w.alloc (.cells kS1 37)).alloc (.cells kE1 74)).alloc (.cells (r1A w.heap.size (w.heap.size + 1)) 48) := ⟨_, rfl⟩
  have HS : Hid (W1.heap[w.heap.size]? = some (.cells kS1 37 (0, 0))) := by show W1.heap[_]? = _; rw [hW1]; exact heap_before (heap_before (heap_last _ _ _ rfl))
  have HE : Hid (W1.heap[w.heap.size + 1]? = some (.cells kE1 74 (0, 0))) := by show W1.heap[_]? = _; rw [hW1]; exact heap_before (heap_last _ _ _ (by simp))
  have HR : Hid (W1.heap[w.heap.size + 1 + 1]? = some (.cells (r1A w.heap.size (w.heap.size + 1)) 48 (0, 0))) := by show W1.heap[_]? = _; rw [hW1]; exact heap_last _ _ _ (by simp)
  have HB : Hid (Below w.heap.size w W1) := by show Below _ _ _; rw [hW1]; exact (((Below.refl _ _).alloc (Nat.le_refl _) _).alloc (by simp) _).alloc (by simp; omega) _
  have HIn : Hid (∀ W, Le W1 W → RunIn W (some ⟨w.heap.size, 0, none⟩) none (some ⟨w.heap.size + 1, 0, none⟩) kR1) := fun W hW => (kIn1 HS.out HE.out).below hW
  have HRc : Hid (∀ W, Le W1 W → W.heap[w.heap.size + 1 + 1]? = some (.cells (r1A w.heap.size (w.heap.size + 1)) 48 (0, 0))) := fun W hW => (Below.block hW _ (Array.getElem?_eq_some_iff.1 HR.out).1).trans HR.out
  have HCe : Hid (∀ W, Le W1 W → W.cell? ⟨w.heap.size + 1 + 1, 0, none⟩ = some (.slice (some ⟨w.heap.size, 0, none⟩) 2 2) ∧ W.cell? ⟨w.heap.size + 1 + 1, 1, none⟩ = some (I 200) ∧ W.cell? ⟨w.heap.size + 1 + 1, 2, none⟩ = some (.slice none 0 0) ∧ W.cell? ⟨w.heap.size + 1 + 1, 3, none⟩ = some (.slice (some ⟨w.heap.size + 1, 0, none⟩) 2 2)) := fun W hW => by
    have h := HRc.out W hW
    exact ⟨by rw [cell_of_row _ _ _ _ _ _ h]; rfl, by rw [cell_of_row _ _ _ _ _ _ h]; rfl, by rw [cell_of_row _ _ _ _ _ _ h]; rfl, by rw [cell_of_row _ _ _ _ _ _ h]; rfl⟩
  have HW := Lib.hid hW1
  clear hW1
  go_enter Try.func6, Try.ntmps6
  go_wp2_with fail
  show Calls _ _ _ (((w.alloc (.cells kS1 37)).alloc (.cells kE1 74)).alloc (.cells (r1A w.heap.size (w.heap.size + 1)) 48)) _
  rw [← HW.out]
  refine (kg1 (HIn.out W1 (Le.refl _))).mono ?_
  rintro e w1 ⟨rfl, hb1⟩
  have L1 : Hid (Le W1 w1) := hb1
  obtain ⟨y0, y1, y2, y3⟩ := HCe.out w1 L1.out
  clear hb1
  go_wp2_with fail
  refine (kg2 (HIn.out w1 L1.out)).mono ?_
  rintro e w2 ⟨rfl, hb2⟩
  have L2 : Hid (Le W1 w2) := L1.out.trans hb2
  obtain ⟨x0, x1, x2, x3⟩ := HCe.out w2 L2.out
  have z0 := ovr_cell x0
  have z1 := ovr_cell x1
  have z2 := ovr_cell x2
  have z3 := ovr_cell x3
  have Hst : Hid (∀ u, Calls Try.prog 17 #[.agg (ia 117 softV), .agg (r1A w.heap.size (w.heap.size + 1))] (ovr w2 u) fun e w' => e = .returned (.tuple #[I 60, I 4, I 0]) ∧ Below (ovr w2 u).heap.size (ovr w2 u) w') := fun u => kg3 (HIn.out _ (L2.out.trans (ovr_below _ _)))
  clear hb2 x0 x1 x2 x3 y0 y1 y2 y3
  go_wp2_with fail
  refine wp_region_below_lit (by kernel_rfl) (by kernel_rfl) ?_
  repeat (go_big_quiet_step ((first | (go_at_call 18; exact call_below (soft_any _)) | (go_at_call 17; exact call_below (Hst.out _)))))
  refine wpQuiet_nil ?_
  intro w3 hb3
  have L3 : Hid (Le W1 w3) := L2.out.trans hb3
  obtain ⟨x0, x1, x2, x3⟩ := HCe.out w3 L3.out
  have y0 := ovr_cell x0
  have y1 := ovr_cell x1
  have y2 := ovr_cell x2
  have y3 := ovr_cell x3
  have Hob : Hid (∀ W, Le w3 W → Calls Try.prog 9 #[.agg (ia 117 softV), .agg (r1A w.heap.size (w.heap.size + 1))] W fun e w' => e = .returned (.tuple #[.agg #[I 6, I 0, I 0], I 0]) ∧ Below W.heap.size W w') := fun W hW => kg4 (HIn.out _ (L3.out.trans hW))
  clear hb3 x0 x1 x2 x3 z0 z1 z2 z3 Hst
  go_wp2_with fail
  refine wp_region_make_two (fun j => if j = 0 then some (fun u _ => u = .agg (ia 117 softV)) else if j = 2 then some (fun u _ => u = .tuple #[.agg #[I 6, I 0, I 0], I 0]) else if j = 6 then some (NewAt w3 #[I 0, I 0, I 0] 53) else none) [5] (by kernel_rfl) (by kernel_rfl) (by kernel_rfl) (by kernel_rfl) (by kernel_rfl) (by intro i hi; simp at hi; subst hi; rfl) ⟨rfl, rfl⟩ (fun c a d v w h => by cases d <;> exact h) ?_
  simp only [sleepTwo_cons, sleepTwo_two]
  refine wpG_make (fun u _ => u = .agg (ia 117 softV)) rfl rfl (fun w' hw' _ => ?_) (fun u hu => ?_)
  · go_simp
    exact call_grow (soft_any w')
  obtain ⟨_, _, rfl⟩ := hu
  simp only [Act.put, List.setIfInBounds_toArray, List.set_cons_zero, List.set_cons_succ]
  repeat (refine wpG_one rfl rfl rfl ?_; intro K hK; go_big_quiet_op; go_big_quiet_on)
  refine wpG_make (fun u _ => u = .tuple #[.agg #[I 6, I 0, I 0], I 0]) rfl rfl (fun w' hw' _ => ?_) (fun u hu => ?_)
  · go_simp
    exact call_grow (Hob.out w' hw'.le)
  obtain ⟨_, _, rfl⟩ := hu
  simp only [Act.put, List.setIfInBounds_toArray, List.set_cons_zero, List.set_cons_succ]
  repeat (refine wpG_one rfl rfl rfl ?_; intro K hK; go_big_quiet_op; go_big_quiet_on)
  refine wpG_make (NewAt w3 #[I 0, I 0, I 0] 53) rfl rfl (fun w' hw' _ => ?_) (fun u hu => ?_)
  · go_simp
    exact new_grow hw'
  obtain ⟨_, _, xb, rfl, _, hxb⟩ := hu
  simp only [Act.put, List.setIfInBounds_toArray, List.set_cons_zero, List.set_cons_succ]
  repeat (refine wpG_one rfl rfl rfl ?_; intro K hK; go_big_quiet_op; go_big_quiet_on)
  refine wpG_nil (fun w5 hw5 hG => ?_)
  have hx5 := (Box.now hG.2).at.1
  intro s t hs ht
  obtain rfl := Option.some.inj hs
  obtain rfl := Option.some.inj ht
  clear hG hs ht
  refine wp_store_row 53 _ _ rfl xb rfl _ _ hx5 #[I 6, I 0, I 0] rfl (one3 _ _ _) rfl (by kernel_rfl) ?_
  refine ⟨hw5.set hxb _, ?_⟩
  refine wp_assign _ (I 0) rfl rfl ?_
  refine ⟨hw5.set hxb _, ?_⟩
  simp only [Act.put, List.setIfInBounds_toArray, List.set_cons_zero, List.set_cons_succ]
  have L4 : Hid (Le W1 (w5.setRow xb #[I 6, I 0, I 0])) := below_setRow (L3.out.trans hw5.le) (Nat.le_trans L3.out.size hxb) _
  have q0 : (w5.setRow xb #[I 6, I 0, I 0]).cell? ⟨xb, 0, none⟩ = some (I 6) := by rw [cell_of_row _ _ _ _ _ _ (setRow_same hx5)]; rfl
  have q1 : (w5.setRow xb #[I 6, I 0, I 0]).cell? ⟨xb, 1, none⟩ = some (I 0) := by rw [cell_of_row _ _ _ _ _ _ (setRow_same hx5)]; rfl
  have q2 : (w5.setRow xb #[I 6, I 0, I 0]).cell? ⟨xb, 2, none⟩ = some (I 0) := by rw [cell_of_row _ _ _ _ _ _ (setRow_same hx5)]; rfl
  generalize w5.setRow xb #[I 6, I 0, I 0] = w4 at *
  have R4 : Hid (w4.heap[w.heap.size + 1 + 1]? = some (.cells (r1A w.heap.size (w.heap.size + 1)) 48 (0, 0))) := HRc.out w4 L4.out
  clear hx5 hw5 hxb y0 y1 y2 y3 Hob
  go_wp2_with (refine wpList_store_row rfl 48 _ _ rfl (w.heap.size + 1 + 1) rfl _ _ (heap_before (heap_before R4.out)) (r2A w4.heap.size (w4.heap.size + 1)) rfl (by intro v hv; simp at hv; rcases hv with rfl | rfl | rfl | rfl <;> rfl) rfl (by kernel_rfl) ?_)
  have R5 : Hid (∀ x y, (((w4.alloc x).alloc y).setRow (w.heap.size + 1 + 1) (r2A w4.heap.size (w4.heap.size + 1))).heap[w.heap.size + 1 + 1]? = some (.cells (r2A w4.heap.size (w4.heap.size + 1)) 48 (0, 0))) := fun x y => setRow_same (heap_before (heap_before R4.out))
  obtain ⟨W5, hW5⟩ : ∃ W5, W5 = ((w4.alloc (.cells kS2 37)).alloc (.cells kM2 82)).setRow (w.heap.size + 1 + 1) (r2A w4.heap.size (w4.heap.size + 1)) := ⟨_, rfl⟩
  have hz4 : w.heap.size + 1 + 1 < w4.heap.size := (Array.getElem?_eq_some_iff.1 R4.out).1
  have HS2 : Hid (W5.heap[w4.heap.size]? = some (.cells kS2 37 (0, 0))) := by show W5.heap[_]? = _; rw [hW5, setRow_other (by omega)]; exact heap_before (heap_last _ _ _ rfl)
  have HM2 : Hid (W5.heap[w4.heap.size + 1]? = some (.cells kM2 82 (0, 0))) := by show W5.heap[_]? = _; rw [hW5, setRow_other (by omega)]; exact heap_last _ _ _ (by simp)
  have HR2 : Hid (W5.heap[w.heap.size + 1 + 1]? = some (.cells (r2A w4.heap.size (w4.heap.size + 1)) 48 (0, 0))) := by show W5.heap[_]? = _; rw [hW5]; exact R5.out _ _
  have HB5 : Hid (Below w.heap.size w W5) := by
    show Below _ _ _
    rw [hW5]
    have h := HB.out.trans (Below.mono L4.out HB.out.size)
    exact below_setRow ((h.alloc h.size _).alloc (by have := h.size; simp; omega) _) (by omega) _
  have HIn2 : Hid (∀ W, Le W5 W → RunIn W (some ⟨w4.heap.size, 0, none⟩) (some ⟨w4.heap.size + 1, 0, none⟩) none kR2) := fun W hW => (kIn2 HS2.out HM2.out).below hW
  have HCe2 : Hid (∀ W, Le W5 W → W.cell? ⟨w.heap.size + 1 + 1, 0, none⟩ = some (.slice (some ⟨w4.heap.size, 0, none⟩) 1 1) ∧ W.cell? ⟨w.heap.size + 1 + 1, 1, none⟩ = some (I 6) ∧ W.cell? ⟨w.heap.size + 1 + 1, 2, none⟩ = some (.slice (some ⟨w4.heap.size + 1, 0, none⟩) 2 2) ∧ W.cell? ⟨w.heap.size + 1 + 1, 3, none⟩ = some (.slice none 0 0)) := fun W hW => by
    have h := (Below.block hW _ (Array.getElem?_eq_some_iff.1 HR2.out).1).trans HR2.out
    exact ⟨by rw [cell_of_row _ _ _ _ _ _ h]; rfl, by rw [cell_of_row _ _ _ _ _ _ h]; rfl, by rw [cell_of_row _ _ _ _ _ _ h]; rfl, by rw [cell_of_row _ _ _ _ _ _ h]; rfl⟩
  show Code.wp _ _ _ _ (((w4.alloc (.cells kS2 37)).alloc (.cells kM2 82)).setRow (w.heap.size + 1 + 1) (r2A w4.heap.size (w4.heap.size + 1)))
  rw [← hW5]
  have HW5 := Lib.hid hW5
  obtain ⟨x0, x1, x2, x3⟩ := HCe2.out W5 (Le.refl _)
  have y0 := ovr_cell x0
  have y1 := ovr_cell x1
  have y2 := ovr_cell x2
  have y3 := ovr_cell x3
  have Hdi : Hid (∀ W, Le W5 W → Calls Try.prog 19 #[.agg (ia 117 softV), .agg (r2A w4.heap.size (w4.heap.size + 1)), I 4] W fun e w' => e = .returned (.tuple #[.agg #[I 96, I 102], I 0]) ∧ Below W.heap.size W w') := fun W hW => kg5 (HIn2.out _ hW)
  clear hW5 x0 x1 x2 x3 q0 q1 q2 R5 hz4
  refine wp_region_make_two (fun j => if j = 0 then some (fun u _ => u = .agg (ia 117 softV)) else if j = 2 then some (fun u _ => u = .tuple #[.agg #[I 96, I 102], I 0]) else if j = 6 then some (NewAt W5 #[I 0, I 0] 23) else none) [5] (by kernel_rfl) (by kernel_rfl) (by kernel_rfl) (by kernel_rfl) (by kernel_rfl) (by intro i hi; simp at hi; subst hi; rfl) ⟨rfl, rfl⟩ (fun c a d v w h => by cases d <;> exact h) ?_
  simp only [sleepTwo_cons, sleepTwo_two]
  refine wpG_make (fun u _ => u = .agg (ia 117 softV)) rfl rfl (fun w' hw' _ => ?_) (fun u hu => ?_)
  · go_simp
    exact call_grow (soft_any w')
  obtain ⟨_, _, rfl⟩ := hu
  simp only [Act.put, List.setIfInBounds_toArray, List.set_cons_zero, List.set_cons_succ]
  repeat (refine wpG_one rfl rfl rfl ?_; intro K hK; go_big_quiet_op; go_big_quiet_on)
  refine wpG_make (fun u _ => u = .tuple #[.agg #[I 96, I 102], I 0]) rfl rfl (fun w' hw' _ => ?_) (fun u hu => ?_)
  · go_simp
    exact call_grow (Hdi.out w' hw'.le)
  obtain ⟨_, _, rfl⟩ := hu
  simp only [Act.put, List.setIfInBounds_toArray, List.set_cons_zero, List.set_cons_succ]
  repeat (refine wpG_one rfl rfl rfl ?_; intro K hK; go_big_quiet_op; go_big_quiet_on)
  refine wpG_make (NewAt W5 #[I 0, I 0] 23) rfl rfl (fun w' hw' _ => ?_) (fun u hu => ?_)
  · go_simp
    exact new_grow hw'
  obtain ⟨_, _, xb, rfl, _, hxb⟩ := hu
  simp only [Act.put, List.setIfInBounds_toArray, List.set_cons_zero, List.set_cons_succ]
  repeat (refine wpG_one rfl rfl rfl ?_; intro K hK; go_big_quiet_op; go_big_quiet_on)
  refine wpG_nil (fun w5 hw5 hG => ?_)
  have hx5 := (Box.now hG.2).at.1
  intro s t hs ht
  obtain rfl := Option.some.inj hs
  obtain rfl := Option.some.inj ht
  clear hG hs ht
  refine wp_store_row 23 _ _ rfl xb rfl _ _ hx5 #[I 96, I 102] rfl (two2 _ _) rfl (by kernel_rfl) ?_
  refine ⟨hw5.set hxb _, ?_⟩
  refine wp_assign _ (I 0) rfl rfl ?_
  refine ⟨hw5.set hxb _, ?_⟩
  simp only [Act.put, List.setIfInBounds_toArray, List.set_cons_zero, List.set_cons_succ]
  have L6 : Hid (Le W5 (w5.setRow xb #[I 96, I 102])) := below_setRow hw5.le hxb _
  have q0 : (w5.setRow xb #[I 96, I 102]).heap[xb]? = some (.cells #[I 96, I 102] 23 (0, 0)) := setRow_same hx5
  generalize w5.setRow xb #[I 96, I 102] = W6 at *
  have Q0 := Lib.hid q0
  obtain ⟨xa, hxa⟩ : ∃ xa, xa = xb := ⟨_, rfl⟩
  rw [← hxa] at Q0 ⊢
  clear hxa
  clear hx5 hw5 hxb y0 y1 y2 y3 Hdi q0
  obtain ⟨x0, x1, x2, x3⟩ := HCe2.out W6 L6.out
  have y0 := ovr_cell x0
  have y1 := ovr_cell x1
  have y2 := ovr_cell x2
  have y3 := ovr_cell x3
  have Hbe : Hid (∀ W, Le W6 W → Calls Try.prog 20 #[.agg (ia 117 softV), .agg (r2A w4.heap.size (w4.heap.size + 1)), I 1] W fun e w' => e = .returned (.tuple #[.agg #[I 98, I 104], I 0]) ∧ Below W.heap.size W w') := fun W hW => kg6 (HIn2.out _ (L6.out.trans hW))
  clear x0 x1 x2 x3
  go_wp2_with fail
  refine wp_region_make_two (fun j => if j = 0 then some (fun u _ => u = .agg (ia 117 softV)) else if j = 2 then some (fun u _ => u = .tuple #[.agg #[I 98, I 104], I 0]) else if j = 6 then some (NewAt W6 #[I 0, I 0] 23) else none) [5] (by kernel_rfl) (by kernel_rfl) (by kernel_rfl) (by kernel_rfl) (by kernel_rfl) (by intro i hi; simp at hi; subst hi; rfl) ⟨rfl, rfl⟩ (fun c a d v w h => by cases d <;> exact h) ?_
  simp only [sleepTwo_cons, sleepTwo_two]
  refine wpG_make (fun u _ => u = .agg (ia 117 softV)) rfl rfl (fun w' hw' _ => ?_) (fun u hu => ?_)
  · go_simp
    exact call_grow (soft_any w')
  obtain ⟨_, _, rfl⟩ := hu
  simp only [Act.put, List.setIfInBounds_toArray, List.set_cons_zero, List.set_cons_succ]
  repeat (refine wpG_one rfl rfl rfl ?_; intro K hK; go_big_quiet_op; go_big_quiet_on)
  refine wpG_make (fun u _ => u = .tuple #[.agg #[I 98, I 104], I 0]) rfl rfl (fun w' hw' _ => ?_) (fun u hu => ?_)
  · go_simp
    exact call_grow (Hbe.out w' hw'.le)
  obtain ⟨_, _, rfl⟩ := hu
  simp only [Act.put, List.setIfInBounds_toArray, List.set_cons_zero, List.set_cons_succ]
  repeat (refine wpG_one rfl rfl rfl ?_; intro K hK; go_big_quiet_op; go_big_quiet_on)
  refine wpG_make (NewAt W6 #[I 0, I 0] 23) rfl rfl (fun w' hw' _ => ?_) (fun u hu => ?_)
  · go_simp
    exact new_grow hw'
  obtain ⟨_, _, xb, rfl, _, hxb⟩ := hu
  simp only [Act.put, List.setIfInBounds_toArray, List.set_cons_zero, List.set_cons_succ]
  repeat (refine wpG_one rfl rfl rfl ?_; intro K hK; go_big_quiet_op; go_big_quiet_on)
  refine wpG_nil (fun w5 hw5 hG => ?_)
  have hx5 := (Box.now hG.2).at.1
  intro s t hs ht
  obtain rfl := Option.some.inj hs
  obtain rfl := Option.some.inj ht
  clear hG hs ht
  refine wp_store_row 23 _ _ rfl xb rfl _ _ hx5 #[I 98, I 104] rfl (two2 _ _) rfl (by kernel_rfl) ?_
  refine ⟨hw5.set hxb _, ?_⟩
  refine wp_assign _ (I 0) rfl rfl ?_
  refine ⟨hw5.set hxb _, ?_⟩
  simp only [Act.put, List.setIfInBounds_toArray, List.set_cons_zero, List.set_cons_succ]
  have L7 : Hid (Le W6 (w5.setRow xb #[I 98, I 104])) := below_setRow hw5.le hxb _
  have q0 : (w5.setRow xb #[I 98, I 104]).heap[xb]? = some (.cells #[I 98, I 104] 23 (0, 0)) := setRow_same hx5
  generalize w5.setRow xb #[I 98, I 104] = W7 at *
  have Q1 := Lib.hid q0
  have Q2 : Hid (∀ W, Le W7 W → W.cell? ⟨xa, 0, none⟩ = some (I 96) ∧ W.cell? ⟨xa, 1, none⟩ = some (I 102) ∧ W.cell? ⟨xb, 0, none⟩ = some (I 98) ∧ W.cell? ⟨xb, 1, none⟩ = some (I 104)) := fun W hW => by
    have h1 := (Below.block (L7.out.trans hW) _ (Array.getElem?_eq_some_iff.1 Q0.out).1).trans Q0.out
    have h2 := (Below.block hW _ (Array.getElem?_eq_some_iff.1 Q1.out).1).trans Q1.out
    exact ⟨by rw [cell_of_row _ _ _ _ _ _ h1]; rfl, by rw [cell_of_row _ _ _ _ _ _ h1]; rfl, by rw [cell_of_row _ _ _ _ _ _ h2]; rfl, by rw [cell_of_row _ _ _ _ _ _ h2]; rfl⟩
  clear hx5 hw5 hxb y0 y1 y2 y3 Hbe q0
  obtain ⟨x0, x1, x2, x3⟩ := HCe2.out W7 (L6.out.trans L7.out)
  have y0 := ovr_cell x0
  have y1 := ovr_cell x1
  have y2 := ovr_cell x2
  have y3 := ovr_cell x3
  have Hac : Hid (∀ W, Le W7 W → Calls Try.prog 21 #[.agg (ia 117 softV), .agg (r2A w4.heap.size (w4.heap.size + 1))] W (RetL W [⟨0, 2⟩, ⟨5, 5⟩] 0)) := fun W hW => kg7 (HIn2.out _ (L6.out.trans (L7.out.trans hW)))
  clear x0 x1 x2 x3
  go_wp2_with fail
  refine wp_region_make (fun j => if j = 0 then some (fun u _ => u = .agg (ia 117 softV)) else if j = 2 then some (SlT [⟨0, 2⟩, ⟨5, 5⟩] 0) else none) (by kernel_rfl) (by kernel_rfl) (by kernel_rfl) ?_
  refine wpG_make (fun u _ => u = .agg (ia 117 softV)) rfl rfl (fun w' hw' _ => ?_) (fun u hu => ?_)
  · go_simp
    exact call_grow (soft_any w')
  obtain ⟨_, _, rfl⟩ := hu
  simp only [Act.put, List.setIfInBounds_toArray, List.set_cons_zero, List.set_cons_succ]
  repeat (refine wpG_one rfl rfl rfl ?_; intro K hK; go_big_quiet_op; go_big_quiet_on)
  refine wpG_make (SlT [⟨0, 2⟩, ⟨5, 5⟩] 0) rfl rfl (fun w' hw' _ => ?_) (fun u hu => ?_)
  · go_simp
    exact retL_grow (Hac.out w' hw'.le)
  obtain ⟨_, _, A1, n1, c1, rfl, hn1, _⟩ := hu
  obtain rfl : n1 = 2 := hn1
  simp only [Act.put, List.setIfInBounds_toArray, List.set_cons_zero, List.set_cons_succ]
  repeat (refine wpG_one rfl rfl rfl ?_; intro K hK; go_big_quiet_op; go_big_quiet_on)
  refine wpG_nil (fun W8 hw8 hG => ?_)
  have L8 : Hid (Le W7 W8) := hw8.le
  have g1 := hG.2
  have G1 : Hid (∀ W, Le W8 W → Rd W W.heap.size 2 A1 2 (rR [⟨0, 2⟩, ⟨5, 5⟩])) := fun W hW => (g1 W hW).at.2
  clear hG hw8 g1 y0 y1 y2 y3 Hac
  obtain ⟨x0, x1, x2, x3⟩ := HCe2.out W8 (L6.out.trans (L7.out.trans L8.out))
  have y0 := ovr_cell x0
  have y1 := ovr_cell x1
  have y2 := ovr_cell x2
  have y3 := ovr_cell x3
  have Hso : Hid (∀ W, Le W8 W → Calls Try.prog 22 #[.agg (ia 117 softV), .agg (r2A w4.heap.size (w4.heap.size + 1))] W (RetL W [⟨0, 30⟩, ⟨50, 60⟩] 0)) := fun W hW => kg8 (HIn2.out _ (L6.out.trans (L7.out.trans (L8.out.trans hW))))
  clear x0 x1 x2 x3
  go_wp2_with fail
  refine wp_region_make (fun j => if j = 0 then some (fun u _ => u = .agg (ia 117 softV)) else if j = 2 then some (SlT [⟨0, 30⟩, ⟨50, 60⟩] 0) else none) (by kernel_rfl) (by kernel_rfl) (by kernel_rfl) ?_
  refine wpG_make (fun u _ => u = .agg (ia 117 softV)) rfl rfl (fun w' hw' _ => ?_) (fun u hu => ?_)
  · go_simp
    exact call_grow (soft_any w')
  obtain ⟨_, _, rfl⟩ := hu
  simp only [Act.put, List.setIfInBounds_toArray, List.set_cons_zero, List.set_cons_succ]
  repeat (refine wpG_one rfl rfl rfl ?_; intro K hK; go_big_quiet_op; go_big_quiet_on)
  refine wpG_make (SlT [⟨0, 30⟩, ⟨50, 60⟩] 0) rfl rfl (fun w' hw' _ => ?_) (fun u hu => ?_)
  · go_simp
    exact retL_grow (Hso.out w' hw'.le)
  obtain ⟨_, _, A2, n2, c2, rfl, hn2, _⟩ := hu
  obtain rfl : n2 = 2 := hn2
  simp only [Act.put, List.setIfInBounds_toArray, List.set_cons_zero, List.set_cons_succ]
  repeat (refine wpG_one rfl rfl rfl ?_; intro K hK; go_big_quiet_op; go_big_quiet_on)
  refine wpG_nil (fun W9 hw9 hG => ?_)
  have L9 : Hid (Le W8 W9) := hw9.le
  have g1 := hG.2
  have G2 : Hid (∀ W, Le W9 W → Rd W W.heap.size 2 A2 2 (rR [⟨0, 30⟩, ⟨50, 60⟩])) := fun W hW => (g1 W hW).at.2
  clear hG hw9 g1 y0 y1 y2 y3 Hso
  obtain ⟨x0, x1, x2, x3⟩ := Q2.out W9 (L8.out.trans L9.out)
  have hfin : Hid (∀ W, Le W9 W → Below w.heap.size w W) := fun W hW => HB5.out.trans (Below.mono (L6.out.trans (L7.out.trans (L8.out.trans (L9.out.trans hW)))) HB5.out.size)
  go_wp2_with fail
  have E1 : Hid (Le W9 (W9.alloc (.cells #[I 0, I 2, I 5, I 5] 23))) := (Below.refl _ _).alloc (Nat.le_refl _) _
  refine (same_any A1 _ 2 2 c1 2 [⟨0, 2⟩, ⟨5, 5⟩] [⟨0, 2⟩, ⟨5, 5⟩] _ rfl rfl (G1.out _ (L9.out.trans E1.out)) (Rd_new (heap_last _ _ _ rfl) 2 2 0 _ (all2 (all2 rfl rfl) (all2 rfl rfl))) (by omega) (by omega)).mono ?_
  rintro e W10 ⟨rfl, hb10⟩
  rw [show sameL [⟨0, 2⟩, ⟨5, 5⟩] [⟨0, 2⟩, ⟨5, 5⟩] = true from rfl]
  have L10 : Hid (Le W9 W10) := E1.out.trans hb10
  clear hb10
  go_wp2_with fail
  have E2 : Hid (Le W10 (W10.alloc (.cells #[I 0, I 30, I 50, I 60] 23))) := (Below.refl _ _).alloc (Nat.le_refl _) _
  refine (same_any A2 _ 2 2 c2 2 [⟨0, 30⟩, ⟨50, 60⟩] [⟨0, 30⟩, ⟨50, 60⟩] _ rfl rfl (G2.out _ (L10.out.trans E2.out)) (Rd_new (heap_last _ _ _ rfl) 2 2 0 _ (all2 (all2 rfl rfl) (all2 rfl rfl))) (by omega) (by omega)).mono ?_
  rintro e W11 ⟨rfl, hb11⟩
  rw [show sameL [⟨0, 30⟩, ⟨50, 60⟩] [⟨0, 30⟩, ⟨50, 60⟩] = true from rfl]
  have L11 : Hid (Le W9 W11) := L10.out.trans (E2.out.trans hb11)
  clear hb11
  go_wp2_with fail
  go_ret
  exact ⟨rfl, hfin.out _ L11.out⟩
end Go.Proofs.Ytbojgcaehlapiaa
