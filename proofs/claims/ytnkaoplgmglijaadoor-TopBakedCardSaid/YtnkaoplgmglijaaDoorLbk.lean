/- The walk of the law TopBaked (printed by gen_lbk.py). -/
import Derived.Test.YtnkaoplgmglijaaDoorPca
import Derived.Test.YtnkaoplgmglijaaDoorDw3
import Derived.Test.YtnkaoplgmglijaaDoorHp
import Derived.Test.YtnkaoplgmglijaaDoorDl
import Derived.Test.YtnkaoplgmglijaaDoorJo
import Derived.ArgAppend
import Derived.Test.YtnkaoplgmglijaaDoorBka
import Derived.Test.YtnkaoplgmglijaaDoorObk
import Derived.Deep.RegionHeld3
namespace Go.Proofs.YtnkaoplgmglijaaDoor.Un
open Go.RowKit
def sil : Mdl := ⟨1, fun k => if k = 0 then ⟨2, 2⟩ else if k = 1 then ⟨3, 4⟩ else if k = 2 then ⟨5, 5⟩ else ⟨6, 8⟩⟩
theorem qx_ck : ckF sil [⟨2, 2⟩] 6 = 0 := by decide +kernel
theorem qx_win {l : List Rng} (h : WinR sil [⟨2, 2⟩] 6 l) : l = [⟨5, 10⟩] := by
 obtain ⟨hok, hz, _, _⟩ := ck_ok qx_ck
 have h2 : WinOf (badAt sil 6 [⟨2, 2⟩]) [⟨5, 10⟩] := by
  have := win_bad (v := 6) hok hz (l := [⟨0, 4⟩, ⟨11, 16⟩, ⟨13, 1000000⟩]) (by decide +kernel) (by decide +kernel)
  rwa [show (swK ([⟨0, 4⟩, ⟨11, 16⟩, ⟨13, 1000000⟩] ++ [⟨1000001, 1000001⟩]) (([⟨0, 4⟩, ⟨11, 16⟩, ⟨13, 1000000⟩] : List Rng).length + 1)).2 = [⟨5, 10⟩] by decide +kernel] at this
 exact (h.ok qx_ck).eq h2 fun _ _ _ => Iff.rfl
theorem rd_rowR {w : World} {b : Nat} {cs : Array Value} {t : TypeId} {xs : List Rng} (h : w.heap[b]? = some (.cells cs t (0, 0))) (hc : cs.toList = rc xs) : Rd w w.heap.size 2 (some ⟨b, 0, none⟩) xs.length (rR xs) := fun _ => by
 refine ⟨b, 0, rfl, (Array.getElem?_eq_some_iff.1 h).1, fun k hk j hj => ?_⟩
 rw [cell_of_row _ _ _ _ _ _ h, ← Array.getElem?_toList, hc, rc_flat, show 0 + k * 2 + j = k * 2 + j by omega, flat_get _ hk hj]
theorem rd_rowI {w : World} {b : Nat} {cs : Array Value} {t : TypeId} {xs : List Int} (h : w.heap[b]? = some (.cells cs t (0, 0))) (hc : cs.toList = xs.map fun x => I x) : Rd w w.heap.size 1 (some ⟨b, 0, none⟩) xs.length (rI xs) := fun _ => by
 refine ⟨b, 0, rfl, (Array.getElem?_eq_some_iff.1 h).1, fun k hk j hj => ?_⟩
 obtain rfl : j = 0 := by omega
 rw [cell_of_row _ _ _ _ _ _ h, ← Array.getElem?_toList, hc, show 0 + k * 1 + 0 = k by omega, List.getElem?_map, List.getElem?_eq_getElem hk]
 unfold rI
 rw [at0_get hk]
 rfl
theorem under_one {X w' : World} {o : Obj} (h : Below (X.alloc o).heap.size (X.alloc o) w') : Below X.heap.size X w' := ((Below.refl _ _).alloc (Nat.le_refl _) o).trans (h.mono (by simp))
def OnR (a b : Int) (V : Value) (w : World) : Prop := ∃ q o c, V = .slice (some ⟨q, o, none⟩) 1 c ∧ q < w.heap.size ∧ w.cell? ⟨q, o, none⟩ = some (I a) ∧ w.cell? ⟨q, o + 1, none⟩ = some (I b)
theorem kq_win (X : World) (k : Nat) (hk : X.heap.size = k) : Calls Tryd.prog 24 #[.agg (mdA sil), .slice (some ⟨k, 0, none⟩) 1 1, .int .u8 6] (X.alloc (.cells #[I 2, I 2] 23)) fun e w' => ∃ V, e = .returned (.tuple #[V, I 0]) ∧ OnR 5 10 V w' ∧ Below X.heap.size X w' := by
 subst hk
 have hr : (X.alloc (.cells #[I 2, I 2] 23)).heap[X.heap.size]? = some (.cells #[I 2, I 2] 23 (0, 0)) := heap_lastP _ _ _ rfl
 refine (window_any sil (some ⟨X.heap.size, 0, none⟩) 1 [⟨2, 2⟩] 6 _ _ (by decide) (Nat.le_refl _) (rd_rowR hr rfl) (by decide)).mono ?_
 rintro e w' ⟨V, l, rfl, hw, ho, hb⟩
 obtain rfl := qx_win hw
 obtain ⟨A, c, rfl, _, hrd⟩ := Rd.of_rc rfl ho
 obtain ⟨q, o, rfl, hq, e0, e1⟩ := hrd.rng (k := 0) (by decide)
 rw [Nat.zero_mul, Nat.add_zero] at e0 e1
 exact ⟨_, by rw [qx_ck]; rfl, ⟨q, o, c, rfl, hq, e0, e1⟩, under_one hb⟩
def kqv (a : Int) : Vec := fun i => if i = 0 then a else 0
def kqR : Run := ⟨[⟨0, 1, kqv 20⟩], 100, [], []⟩
theorem kq1 : grownN kqR 0 100 = 2000 ∧ grownE kqR 0 100 = 0 := by decide +kernel
theorem kq_grown (X : World) (k : Nat) (hk : X.heap.size = k) : Calls Tryd.prog 25 #[.agg #[.slice (some ⟨k, 0, none⟩) 1 1, I 100, .slice none 0 0, .slice none 0 0], I 0, I 100] (X.alloc (.cells #[I 0, I 1, I 20, I 0, I 0, I 0, I 0, I 0] 87)) fun e w' => e = .returned (.tuple #[I 2000, I 0]) ∧ Below X.heap.size X w' := by
 subst hk
 have hr : (X.alloc (.cells #[I 0, I 1, I 20, I 0, I 0, I 0, I 0, I 0] 87)).heap[X.heap.size]? = some (.cells #[I 0, I 1, I 20, I 0, I 0, I 0, I 0, I 0] 87 (0, 0)) := heap_lastP _ _ _ rfl
 have hin : RunIn (X.alloc (.cells #[I 0, I 1, I 20, I 0, I 0, I 0, I 0, I 0] 87)) (some ⟨X.heap.size, 0, none⟩) none none kqR := by
  refine ⟨fun _ => ⟨X.heap.size, 0, rfl, by simp, fun k hk j hj => ?_⟩, Rd.nil, Rd.nil, by decide, by decide, by decide⟩
  have hk0 : k = 0 := by
   have : kqR.ss.length = 1 := rfl
   omega
  subst hk0
  rw [cell_of_row _ _ _ _ _ _ hr]
  rcases j with _ | _ | _ | _ | _ | _ | _ | _ | j
  all_goals first | rfl | omega
 refine (grown_anyP (some ⟨X.heap.size, 0, none⟩) none none 1 0 0 kqR 0 100 _ hin).mono ?_
 rintro e w' ⟨rfl, hb⟩
 exact ⟨by rw [kq1.1, kq1.2], under_one hb⟩
set_option maxRecDepth 100000 in
set_option maxHeartbeats 2000000 in
theorem quiet_any (w : World) : Calls Tryd.prog 10 #[] w fun e w' => e = .returned (.bool true) ∧ Below w.heap.size w w' := by
 obtain ⟨W, hW⟩ : ∃ W, W = (w.alloc (.cells #[I 1, I 2, I 2, I 3, I 4, I 5, I 5, I 6, I 8] 79)) := ⟨_, rfl⟩
 have rowW0 : W.heap[w.heap.size]? = some (.cells #[I 1, I 2, I 2, I 3, I 4, I 5, I 5, I 6, I 8] 79 (0, 0)) := by rw [hW]; exact heap_last _ _ _ rfl
 have yW00 := ovr_cell (W := W) (b := w.heap.size) (o := 0) (v := I 1) (by rw [cell_of_row _ _ _ _ _ _ rowW0]; rfl)
 have yW01 := ovr_cell (W := W) (b := w.heap.size) (o := 1) (v := I 2) (by rw [cell_of_row _ _ _ _ _ _ rowW0]; rfl)
 have yW02 := ovr_cell (W := W) (b := w.heap.size) (o := 2) (v := I 2) (by rw [cell_of_row _ _ _ _ _ _ rowW0]; rfl)
 have yW03 := ovr_cell (W := W) (b := w.heap.size) (o := 3) (v := I 3) (by rw [cell_of_row _ _ _ _ _ _ rowW0]; rfl)
 have yW04 := ovr_cell (W := W) (b := w.heap.size) (o := 4) (v := I 4) (by rw [cell_of_row _ _ _ _ _ _ rowW0]; rfl)
 have yW05 := ovr_cell (W := W) (b := w.heap.size) (o := 5) (v := I 5) (by rw [cell_of_row _ _ _ _ _ _ rowW0]; rfl)
 have yW06 := ovr_cell (W := W) (b := w.heap.size) (o := 6) (v := I 5) (by rw [cell_of_row _ _ _ _ _ _ rowW0]; rfl)
 have yW07 := ovr_cell (W := W) (b := w.heap.size) (o := 7) (v := I 6) (by rw [cell_of_row _ _ _ _ _ _ rowW0]; rfl)
 have yW08 := ovr_cell (W := W) (b := w.heap.size) (o := 8) (v := I 8) (by rw [cell_of_row _ _ _ _ _ _ rowW0]; rfl)
 have RrowW0 := Lib.hid (ovr_row rowW0)
 clear rowW0
 have HUW : Hid (∀ u, Below w.heap.size w (ovr W u)) := U1 hW
 have HW := Lib.hid hW
 clear hW
 go_enter Tryd.func10, Tryd.ntmps10
 go_upto_region 2 with (fail)
 rw [← HW.out]
 obtain ⟨u0, hu0⟩ := ovr_self W
 rw [hu0]
 clear hu0
 have C1 : Hid (∀ k, (ovr W u0).heap.size = k → Calls Tryd.prog 24 #[.agg #[I 1, I 2, I 2, I 3, I 4, I 5, I 5, I 6, I 8], .slice (some ⟨k, 0, none⟩) 1 1, .int .u8 6] ((ovr W u0).alloc (.cells #[I 2, I 2] 23)) fun e w' => ∃ V, e = .returned (.tuple #[V, I 0]) ∧ OnR 5 10 V w' ∧ Below (ovr W u0).heap.size (ovr W u0) w') := fun k hk => kq_win (ovr W u0) k hk
 go_wp2_with fail
 refine (C1.out _ rfl).mono ?_
 rintro e X ⟨V, rfl, ⟨q, o, c, rfl, hq, e0, e1⟩, hb⟩
 have HBX : Hid (Below w.heap.size w X) := (HUW.out u0).trans (hb.mono (HUW.out u0).size)
 have HE : Hid (∀ V, Below X.heap.size X V → V.cell? ⟨q, o, none⟩ = some (I 5) ∧ V.cell? ⟨q, o + 1, none⟩ = some (I 10)) := fun V hV => ⟨(hV.cell hq).trans e0, (hV.cell hq).trans e1⟩
 have C2 := Lib.hid (kq_grown X X.heap.size rfl)
 clear e0 e1 hq hb C1
 go_wp2_with fail
 refine C2.out.mono ?_
 rintro e Y ⟨rfl, hb⟩
 obtain ⟨e0, e1⟩ := HE.out Y hb
 have HBY : Hid (Below w.heap.size w Y) := HBX.out.trans (hb.mono HBX.out.size)
 clear hb
 go_wp2_with fail
 go_ret
 exact ⟨rfl, HBY.out⟩
end Go.Proofs.YtnkaoplgmglijaaDoor.Un
namespace Go.Proofs.YtnkaoplgmglijaaDoor.Un
open Go.RowKit
def SlAt (B0 sz n : Nat) (g : Nat → Nat → Value) (u : Value) (w : World) : Prop := ∃ A c, u = .slice A n c ∧ n ≤ c ∧ Rd w w.heap.size sz A n g ∧ (0 < n → ∃ b o, A = some ⟨b, o, none⟩ ∧ B0 ≤ b)
theorem SlAt.box {B0 sz n : Nat} {g : Nat → Nat → Value} {u : Value} {w : World} (h : SlAt B0 sz n g u w) : Box (SlAt B0 sz n g) u w := fun w' hl => by
 obtain ⟨A, c, hu, hn, hr, hb⟩ := h
 exact ⟨A, c, hu, hn, (hr.below hl).more hl.size, hb⟩
theorem SlAt.set {B0 sz n c : Nat} {A : Option Addr} {g : Nat → Nat → Value} {w : World} (h : SlAt B0 sz n g (.slice A n c) w) {q : Nat} (hq : q < B0) (cs : Array Value) : n ≤ c ∧ Rd (w.setRow q cs) (w.setRow q cs).heap.size sz A n g := by
 obtain ⟨A', c', hu, hn, hr, hb⟩ := h
 injection hu with e1 e2 e3
 subst e1 e3
 refine ⟨hn, fun h0 => ?_⟩
 obtain ⟨b, o, hA, hlt, hc⟩ := hr h0
 obtain ⟨b2, o2, hA2, hB⟩ := hb h0
 have hbb : b = b2 := by rw [hA] at hA2; injection hA2 with e; injection e
 subst hbb
 refine ⟨b, o, hA, by rw [setRow_size]; exact hlt, fun k hk j hj => ?_⟩
 rw [← hc k hk j hj]
 unfold World.cell?
 rw [setRow_other (show b ≠ q by omega)]
theorem app_grow {P : Program} {o : Oper} {a : Act} {w : World} (s x : Operand) (t : TypeId) (ho : o.op = .call { callee := .builtin .append, args := #[s, x], argTypes := #[t, t] })
 (e : TypeId) (i : TypeInfo) (z : Value) (sz bytes : Nat) (ht : P.underlying t = some (.slice e)) (hi : P.info? e = some i) (hz : i.zero = some z) (hsz : i.size = sz) (hby : i.bytes = bytes) (hzs : z.cells.size = sz) (h0 : 0 < sz)
 (b : Nat) (hs : a.eval s = .slice (some ⟨b, 0, none⟩) 0 0) (A : Option Addr) (n c : Nat) (hx : a.eval x = .slice A n c) (g : Nat → Nat → Value) (hr : Rd w w.heap.size sz A n g) (hn : n ≤ 1000000) (hb : bytes ≤ 1000000) {B0 : Nat} (hB0 : B0 ≤ w.heap.size) :
 Oper.grows P o a w (SlAt B0 sz n g) := by
 have hrun : ∃ u w', (Builtin.append_ #[t, t] o.type #[.slice (some ⟨b, 0, none⟩) 0 0, .slice A n c]).run P w = .ok u w' ∧ Le w w' ∧ SlAt B0 sz n g u w' := by
  by_cases hn0 : n = 0
  · subst hn0
    refine ⟨.slice (some ⟨b, 0, none⟩) 0 0, w, ?_, Le.refl w, ⟨_, _, rfl, Nat.le_refl _, Rd.nil, fun h => absurd h (by omega)⟩⟩
    cases A <;> simp [go_sem, Builtin.append_, run_underlying ht, sizeOf, typeInfo, hi, Builtin.lenOf, Builtin.firstCells, storeCells]
  · obtain ⟨b2, o2, hA, _, hc⟩ := hr (by omega)
    subst hA
    have hm : n * bytes ≤ 1000000 * 1000000 := Nat.mul_le_mul hn hb
    obtain ⟨v', w', hrun, hown, hgr⟩ := run_append_arg_grows (P := P) w t o.type e i z sz bytes ht hi hz hsz hby hzs h0 ⟨b, 0, none⟩ 0 0 [] (by simp) (fun j u hu => by simp at hu) ⟨b2, o2, none⟩ n c (flat sz g n) (flat_len _ _ _) (Rd.flat_at hc h0) (by omega) (by unfold maxLen; omega) (by rw [Nat.zero_add]; omega)
    rw [Nat.zero_add, List.nil_append] at hown
    obtain ⟨A', c', hv, hnc, hrd⟩ := Rd.of_own_cap hown
    refine ⟨v', w', hrun, (Below.refl _ _).grown hgr (Nat.le_refl _) (fun g hg => by cases hg), A', c', hv, hnc, hrd, fun _ => ?_⟩
    rcases hown.2 with ⟨hq, _⟩ | ⟨q, cap, cur, hq, hqb, _⟩
    · rw [hv] at hq; injection hq with e1 e2 e3; omega
    · rw [hv] at hq; injection hq with e1 e2 e3
      exact ⟨q, 0, e1, by omega⟩
 obtain ⟨u, w', hrun, hl, hsl⟩ := hrun
 unfold Oper.grows
 have he : (execOp a.eval o).run P w = .ok (.value u) w' := by
  simp [execOp, ho, resolve, invoke, builtin, hs, hx, hrun, Result.andThen]
 rw [he]
 exact ⟨hl, hsl.box⟩
def Emp (u : Value) (_ : World) : Prop := ∃ b, u = .slice (some ⟨b, 0, none⟩) 0 0
theorem emp_grow (w : World) {e : TypeId} : Le w (w.alloc (.cells #[] e)) ∧ Box Emp (.slice (some ⟨w.heap.size, 0, none⟩) 0 0) (w.alloc (.cells #[] e)) :=
 ⟨(Below.refl _ _).alloc (Nat.le_refl _) _, fun _ _ => ⟨_, rfl⟩⟩
theorem alloc_rng (w : World) : ∃ w', (Instr.alloc 23 true (.tuple #[])).run Tryd.prog w = .ok (.pointer (some ⟨w.heap.size, 0, none⟩)) w' := ⟨w.alloc (.cells #[I 0, I 0] 23), by kernel_rfl⟩
end Go.Proofs.YtnkaoplgmglijaaDoor.Un
namespace Go.Proofs.YtnkaoplgmglijaaDoor
open Go.RowKit
attribute [local go_sem] Oper.semAt_some
set_option maxRecDepth 100000 in
set_option maxHeartbeats 8000000 in
theorem topBaked_any (m : Mlt) (A : Option Addr) (c : Nat) (l : List Stp) (HA : Option Addr) (hc : Nat) (hl : List Un.Hst) (cn sl : Int) (mo : Bool) (w : World) (hG : Glob w) (hx : Rd w w.heap.size 8 A l.length (rT l)) (hk : ∀ j, j < l.length → 0 ≤ (at0 l j).kd ∧ (at0 l j).kd ≤ 255) (hn : l.length ≤ maxLen) (hh : Rd w w.heap.size 11 HA hl.length (Un.rH hl)) (hcn : 0 ≤ cn ∧ cn ≤ 255) (hsl : 0 ≤ sl ∧ sl ≤ 255) :
 Calls Tryd.prog 4 #[.agg (mltArr m), .slice A l.length c, .agg (bkArr HA hl.length hc cn sl mo)] w fun e w' => e = .returned (.bool true) ∧ Below w.heap.size w w' := by
 have KQ := Lib.hid Un.quiet_any
 obtain ⟨j3, hj3, kz0, kz1, kz2⟩ := info_parts Un.hst_info'
 obtain ⟨W, hW⟩ : ∃ W, W = (w.alloc (.cells (mltArr m) 27)).alloc (.cells (bkArr HA hl.length hc cn sl mo) 54) := ⟨_, rfl⟩
 have hb0 : Below w.heap.size w W := by rw [hW]; exact ((Below.refl _ _).alloc (Nat.le_refl _) _).alloc (by simp) _
 have r0 : W.heap[w.heap.size]? = some (.cells (mltArr m) 27 (0, 0)) := by rw [hW]; exact heap_before (heap_last _ _ _ rfl)
 have r1 : W.heap[w.heap.size + 1]? = some (.cells (bkArr HA hl.length hc cn sl mo) 54 (0, 0)) := by rw [hW]; exact heap_last _ _ _ (by simp)
 have sW : w.heap.size + 2 = W.heap.size := by rw [hW]; simp
 have HW := Lib.hid hW
 have HY : Hid (∀ W', Below W.heap.size W W' → W'.heap[w.heap.size]? = some (.cells (mltArr m) 27 (0, 0)) ∧ W'.heap[w.heap.size + 1]? = some (.cells (bkArr HA hl.length hc cn sl mo) 54 (0, 0)) ∧ Rd W' w.heap.size 8 A l.length (rT l) ∧ Glob W' ∧ Rd W' w.heap.size 11 HA hl.length (Un.rH hl) ∧ Below w.heap.size w W') := fun W' h => by
  have h' := hb0.trans (h.mono hb0.size)
  exact ⟨(h.block _ (by omega)).trans r0, (h.block _ (by omega)).trans r1, hx.below h', hG.below h', hh.below h', h'⟩
 have Hk := Lib.hid hk
 have Hn := Lib.hid hn
 have Hcn := Lib.hid hcn
 have Hsl := Lib.hid hsl
 clear hW hb0 r0 r1 hG hx hk hn hsl hcn hh
 go_enter Tryd.func4, Tryd.ntmps4
 go_upto_region 1 with (fail)
 rw [← HW.out]
 have H1 : Hid (Below W.heap.size W W) := Below.refl _ _
 have zW : W.heap.size ≤ W.heap.size := Nat.le_refl _
 have x0 := row_c3 (HY.out W (Below.refl _ _)).2.1 0 _ rfl
 by_cases h40 : l.length ≤ 40
 case neg =>
  have d1 : decide (40 < (l.length : Int)) = true := decide_eq_true (by omega)
  clear h40
  go_wp2_with fail
  refine (KQ.out _).mono ?_
  rintro e wk ⟨rfl, hbk⟩
  have HK : Hid (Below W.heap.size W wk) := Below.trans H1.out (hbk.mono (Below.size H1.out))
  clear hbk
  go_wp2_with fail
  go_ret
  exact ⟨rfl, (HY.out wk HK.out).2.2.2.2.2⟩
 have d1 : decide (40 < (l.length : Int)) = false := decide_eq_false (by omega)
 by_cases h30 : hl.length ≤ 30
 case neg =>
  have d2 : decide (30 < (hl.length : Int)) = true := decide_eq_true (by omega)
  clear h40 h30
  go_wp2_with fail
  refine (KQ.out _).mono ?_
  rintro e wk ⟨rfl, hbk⟩
  have HK : Hid (Below W.heap.size W wk) := Below.trans H1.out (hbk.mono (Below.size H1.out))
  clear hbk
  go_wp2_with fail
  go_ret
  exact ⟨rfl, (HY.out wk HK.out).2.2.2.2.2⟩
 have d2 : decide (30 < (hl.length : Int)) = false := decide_eq_false (by omega)
 have Hl40 := Lib.hid h40
 have Hl30 := Lib.hid h30
 clear h40 h30
 by_cases h0 : ckF m l = 0
 case neg =>
  obtain ⟨er, her⟩ : ∃ q, ckF m l = q := ⟨_, rfl⟩
  rw [her] at h0
  go_upto_region 3 with (fail)
  have y := fun k v h => ovr_cell (row_c3 (HY.out W H1.out).1 k v h)
  have y0 := y 0 _ rfl
  have y1 := y 1 _ rfl
  have y2 := y 2 _ rfl
  have y3 := y 3 _ rfl
  have y4 := y 4 _ rfl
  have y5 := y 5 _ rfl
  have y6 := y 6 _ rfl
  clear y
  refine wp_region_make_two (fun j => if j = 2 then some (OlF 8 l.length (rT l)) else if j = 3 then some (PrdF m l) else if j = 7 then some (NewAt W (runArr (.slice none 0 0) fun _ => 0) 36) else none) [6] (by kernel_rfl) (by kernel_rfl) (by kernel_rfl) (by kernel_rfl) (by kernel_rfl) (by intro i hi; simp at hi; subst hi; rfl) ⟨rfl, rfl⟩ (fun c a d v w h => by cases d <;> exact h) ?_
  simp only [sleepTwo_cons, sleepTwo_two]
  repeat (refine wpG_one rfl rfl rfl ?_; intro K hK; go_big_quiet_op; go_big_quiet_on)
  refine wpG_make (OlF 8 l.length (rT l)) rfl rfl (fun w' hw' _ => ?_) (fun u hu => ?_)
  · go_simp
    exact olF_grow (stepsOf_any A l.length c (rT l) w' w.heap.size (by have := Hl40.out; omega) (by have := hw'.le.size; omega) (HY.out w' (H1.out.trans (hw'.le.mono zW))).2.2.1)
  obtain ⟨_, _, A1, c1, rfl, _, _, _⟩ := hu
  simp only [Act.put, List.setIfInBounds_toArray, List.set_cons_zero, List.set_cons_succ]
  refine wpG_make (PrdF m l) rfl rfl (fun w' hw' hk => ?_) (fun u hu => ?_)
  · obtain ⟨b1, e1, he1, _, _, hr1⟩ := (hk ⟨2, .data⟩ (by simp) rfl _ _ _ rfl rfl rfl (by simp) rfl).now
    obtain ⟨rfl, rfl⟩ : A1 = b1 ∧ c1 = e1 := by simp at he1; exact he1
    go_simp
    exact predict_grow m A1 c1 l w' (HY.out w' (H1.out.trans (hw'.le.mono zW))).2.2.2.1 hr1 Hk.out Hn.out
  obtain ⟨_, _, hu⟩ := hu
  (rcases hu with ⟨_, rfl⟩ | ⟨h1, _⟩; rotate_left; · exact absurd (her.symm.trans h1) h0)
  simp only [Act.put, List.setIfInBounds_toArray, List.set_cons_zero, List.set_cons_succ]
  repeat (refine wpG_one rfl rfl rfl ?_; intro K hK; go_big_quiet_op; go_big_quiet_on)
  refine wpG_make (NewAt W (runArr (.slice none 0 0) fun _ => 0) 36) rfl rfl (fun w' hw' _ => ?_) (fun u hu => ?_)
  · go_simp
    exact new_grow hw'
  obtain ⟨_, _, rb, rfl, _, hrb⟩ := hu
  simp only [Act.put, List.setIfInBounds_toArray, List.set_cons_zero, List.set_cons_succ]
  repeat (refine wpG_one rfl rfl rfl ?_; intro K hK; go_big_quiet_op; go_big_quiet_on)
  refine wpG_nil (fun w5 hw5 hG5 => ?_)
  have hx5 := (Box.now hG5.2).at.1
  skip
  clear hG5
  intro s1 t1 hs ht
  obtain rfl := Option.some.inj hs
  obtain rfl := Option.some.inj ht
  clear hs ht
  refine wp_store_row 36 _ _ rfl rb rfl _ _ hx5 (runArr (.slice none 0 0) fun _ => 0) rfl (run_one rfl) rfl (by kernel_rfl) ?_
  refine ⟨hw5.set hrb _, ?_⟩
  refine wp_assign _ (I er) rfl rfl ?_
  refine ⟨hw5.set hrb _, ?_⟩
  simp only [Act.put, List.setIfInBounds_toArray, List.set_cons_zero, List.set_cons_succ]
  obtain ⟨Z, hZ⟩ : ∃ Z, Z = w5.setRow rb (runArr (.slice none 0 0) fun _ => 0) := ⟨_, rfl⟩
  have rZ : Z.heap[rb]? = some (.cells (runArr (.slice none 0 0) fun _ => 0) 36 (0, 0)) := by rw [hZ]; exact setRow_same hx5
  have HrZ := Lib.hid rZ
  have bZ : Below W.heap.size W Z := by rw [hZ]; exact below_setRow hw5.le hrb _
  have HZ := Lib.hid bZ
  clear y0 y1 y2 y3 y4 y5 y6
  rw [← hZ]
  have e1 : (er != 0) = true := by simp; omega
  clear hZ rZ bZ hx5 hw5 her h0 x0 d1 d2
  go_wp2_with fail
  refine (KQ.out _).mono ?_
  rintro e wk ⟨rfl, hbk⟩
  have HK : Hid (Below W.heap.size W wk) := Below.trans HZ.out (hbk.mono (Below.size HZ.out))
  clear hbk
  go_wp2_with fail
  go_ret
  exact ⟨rfl, (HY.out wk HK.out).2.2.2.2.2⟩
 go_upto_region 3 with (fail)
 have y := fun k v h => ovr_cell (row_c3 (HY.out W H1.out).1 k v h)
 have y0 := y 0 _ rfl
 have y1 := y 1 _ rfl
 have y2 := y 2 _ rfl
 have y3 := y 3 _ rfl
 have y4 := y 4 _ rfl
 have y5 := y 5 _ rfl
 have y6 := y 6 _ rfl
 clear y
 refine wp_region_make_two (fun j => if j = 2 then some (OlF 8 l.length (rT l)) else if j = 3 then some (PrdF m l) else if j = 7 then some (NewAt W (runArr (.slice none 0 0) fun _ => 0) 36) else none) [6] (by kernel_rfl) (by kernel_rfl) (by kernel_rfl) (by kernel_rfl) (by kernel_rfl) (by intro i hi; simp at hi; subst hi; rfl) ⟨rfl, rfl⟩ (fun c a d v w h => by cases d <;> exact h) ?_
 simp only [sleepTwo_cons, sleepTwo_two]
 repeat (refine wpG_one rfl rfl rfl ?_; intro K hK; go_big_quiet_op; go_big_quiet_on)
 refine wpG_make (OlF 8 l.length (rT l)) rfl rfl (fun w' hw' _ => ?_) (fun u hu => ?_)
 · go_simp
   exact olF_grow (stepsOf_any A l.length c (rT l) w' w.heap.size (by have := Hl40.out; omega) (by have := hw'.le.size; omega) (HY.out w' (H1.out.trans (hw'.le.mono zW))).2.2.1)
 obtain ⟨_, _, A1, c1, rfl, _, _, _⟩ := hu
 simp only [Act.put, List.setIfInBounds_toArray, List.set_cons_zero, List.set_cons_succ]
 refine wpG_make (PrdF m l) rfl rfl (fun w' hw' hk => ?_) (fun u hu => ?_)
 · obtain ⟨b1, e1, he1, _, _, hr1⟩ := (hk ⟨2, .data⟩ (by simp) rfl _ _ _ rfl rfl rfl (by simp) rfl).now
   obtain ⟨rfl, rfl⟩ : A1 = b1 ∧ c1 = e1 := by simp at he1; exact he1
   go_simp
   exact predict_grow m A1 c1 l w' (HY.out w' (H1.out.trans (hw'.le.mono zW))).2.2.2.1 hr1 Hk.out Hn.out
 obtain ⟨_, _, hu⟩ := hu
 (rcases hu with ⟨h1, _⟩ | ⟨_, S, d, rfl, hd3, hd4, _⟩; · exact absurd h0 h1)
 simp only [Act.put, List.setIfInBounds_toArray, List.set_cons_zero, List.set_cons_succ]
 repeat (refine wpG_one rfl rfl rfl ?_; intro K hK; go_big_quiet_op; go_big_quiet_on)
 refine wpG_make (NewAt W (runArr (.slice none 0 0) fun _ => 0) 36) rfl rfl (fun w' hw' _ => ?_) (fun u hu => ?_)
 · go_simp
   exact new_grow hw'
 obtain ⟨_, _, rb, rfl, _, hrb⟩ := hu
 simp only [Act.put, List.setIfInBounds_toArray, List.set_cons_zero, List.set_cons_succ]
 repeat (refine wpG_one rfl rfl rfl ?_; intro K hK; go_big_quiet_op; go_big_quiet_on)
 refine wpG_nil (fun w5 hw5 hG5 => ?_)
 have hx5 := (Box.now hG5.2).at.1
 (have hP := (Box.now hG5.1.2).sl h0)
 clear hG5
 intro s1 t1 hs ht
 obtain rfl := Option.some.inj hs
 obtain rfl := Option.some.inj ht
 clear hs ht
 refine wp_store_row 36 _ _ rfl rb rfl _ _ hx5 (runArr (.slice S (fzK l l.length) d) (prR m l)) rfl (run_one rfl) rfl (by kernel_rfl) ?_
 refine ⟨hw5.set hrb _, ?_⟩
 refine wp_assign _ (I 0) rfl rfl ?_
 refine ⟨hw5.set hrb _, ?_⟩
 simp only [Act.put, List.setIfInBounds_toArray, List.set_cons_zero, List.set_cons_succ]
 obtain ⟨Z, hZ⟩ : ∃ Z, Z = w5.setRow rb (runArr (.slice S (fzK l l.length) d) (prR m l)) := ⟨_, rfl⟩
 have rZ : Z.heap[rb]? = some (.cells (runArr (.slice S (fzK l l.length) d) (prR m l)) 36 (0, 0)) := by rw [hZ]; exact setRow_same hx5
 have HrZ := Lib.hid rZ
 have bZ : Below W.heap.size W Z := by rw [hZ]; exact below_setRow hw5.le hrb _
 have HZ := Lib.hid bZ
 clear y0 y1 y2 y3 y4 y5 y6
 have sZ : SlIn 0 Z (.slice S (fzK l l.length) d) (fzK l l.length) (prS m l) := by
  rw [hZ]
  rcases hP.2 with h | ⟨b, c, cs, h0, _, h2, h3⟩
  · exact .inl h
  · refine .inr ⟨b, c, cs, h0, Nat.zero_le _, ?_, h3⟩
    rw [setRow_other]
    · exact h2
    · rintro rfl
      rw [hx5] at h2
      injection h2 with h2
      injection h2 with _ ht _
      exact absurd ht (by decide)
 have HsZ := Lib.hid sZ.rd
 have zZ := bZ.size
 rw [← hZ]
 have Hck : Hid (ckF m l = 0) := h0
 clear hZ rZ bZ sZ hP hx5 hw5 h0 d1 d2 x0
 obtain ⟨fz, hfz⟩ : ∃ q, fzK l l.length = q := ⟨_, rfl⟩
 have Hfz := Lib.hid hfz
 have hfl : fz ≤ 40 := by have := fzK_le l l.length; have := Hl40.out; omega
 rw [hfz] at HrZ HsZ hd3 ⊢
 clear hfz
 have HYZ : Hid (∀ w', Below Z.heap.size Z w' → w'.heap[w.heap.size]? = some (.cells (mltArr m) 27 (0, 0)) ∧ w'.heap[w.heap.size + 1]? = some (.cells (bkArr HA hl.length hc cn sl mo) 54 (0, 0)) ∧ Rd w' w.heap.size 8 A l.length (rT l) ∧ Glob w' ∧ Rd w' w.heap.size 11 HA hl.length (Un.rH hl) ∧ Below w.heap.size w w') := fun w' h => HY.out w' (HZ.out.trans (h.mono zZ))
 have g0 := row_c3 HrZ.out 0 _ rfl
 have x2 := row_c3 (HYZ.out Z (Below.refl _ _)).2.1 2 _ rfl
 by_cases hf0 : fz = 0
 · subst hf0
   have e2 : (((0 : Nat) : Int) == 0) = true := rfl
   clear hd3 hd4 hfl
   go_wp2_with fail
   refine (KQ.out _).mono ?_
   rintro e wk ⟨rfl, hbk⟩
   have HK : Hid (Below W.heap.size W wk) := Below.trans HZ.out (hbk.mono (Below.size HZ.out))
   clear hbk
   go_wp2_with fail
   go_ret
   exact ⟨rfl, (HY.out wk HK.out).2.2.2.2.2⟩
 have e2 : ((fz : Int) == 0) = false := by simp; omega
 obtain ⟨j, hj, hjf⟩ : ∃ j : Nat, sl.tmod (fz : Int) = (j : Int) ∧ j < fz := by
  have h1 := Hsl.out
  have h2 : sl.tmod (fz : Int) = sl % (fz : Int) := Int.tmod_eq_emod_of_nonneg h1.1
  have h3 := Int.emod_nonneg sl (show (fz : Int) ≠ 0 by omega)
  have h4 := Int.emod_lt_of_pos sl (show (0 : Int) < fz by omega)
  exact ⟨(sl % (fz : Int)).toNat, by omega, by omega⟩
 have k0 : IntKind.i64.wrap sl = sl := IntWalk.i64_in _ (by have := Hsl.out; omega)
 have k1 : IntKind.i64.wrap (j : Int) = (j : Int) := IntWalk.i64_in _ (by omega)
 have k2 : wrap64 (j : Int) = (j : Int) := by unfold wrap64; omega
 have Hjf := Lib.hid hjf
 go_upto_region 7 with fail
 clear x2 e2 k0 k1 k2 hj
 obtain ⟨sb, so, hSe, _, hsc⟩ := HsZ.out (by omega)
 subst hSe
 obtain ⟨xl, hxl⟩ : ∃ q, prS m l j 3 = q := ⟨_, rfl⟩
 obtain ⟨xh, hxh⟩ : ∃ q, prS m l j 4 = q := ⟨_, rfl⟩
 have z1 : Z.cell? ⟨sb, so + j * 7 + 1 + 2, none⟩ = some (I xl) := by rw [show so + j * 7 + 1 + 2 = so + j * 7 + 3 by omega, ← hxl]; exact hsc j hjf 3 (by omega)
 have z2 : Z.cell? ⟨sb, so + j * 7 + 1 + 2 + 1, none⟩ = some (I xh) := by rw [show so + j * 7 + 1 + 2 + 1 = so + j * 7 + 4 by omega, ← hxh]; exact hsc j hjf 4 (by omega)
 have q1 : decide ((j : Int) < (fz : Int)) = true := decide_eq_true (by omega)
 have q2 : decide (j < fz) = true := decide_eq_true hjf
 have q3 : decide (0 ≤ (j : Int)) = true := decide_eq_true (by omega)
 have HXL := Lib.hid hxl
 have HXH := Lib.hid hxh
 have HRZ := HrZ
 have Hfl := Lib.hid hfl
 clear hsc hxl hxh hfl hd3 hd4 HrZ
 go_upto_region 8 with (with_reducible show wpList _ _ _ _ _ _; refine wpList_store_row rfl 23 _ _ rfl Z.heap.size rfl _ _ (heap_last _ _ _ rfl) #[I xl, I xh] rfl (by simp [Value.oneCell']) rfl (by kernel_rfl) ?_)
 obtain ⟨xq, hxq⟩ : ∃ q, q = Z.heap.size := ⟨_, rfl⟩
 refine name_w fun X hX => ?_
 have hXb : Below Z.heap.size Z X := by rw [hX]; exact below_setRow ((Below.refl _ _).alloc (Nat.le_refl _) _) (Nat.le_refl _) _
 have hXr : X.heap[xq]? = some (.cells #[I xl, I xh] 23 (0, 0)) := by rw [hX, hxq]; exact setRow_same (heap_last _ _ _ rfl)
 have HXR : Hid (∀ w', Below X.heap.size X w' → w'.heap[xq]? = some (.cells #[I xl, I xh] 23 (0, 0)) ∧ w'.heap[rb]? = some (.cells (runArr (.slice (some ⟨sb, so, none⟩) fz d) (prR m l)) 36 (0, 0)) ∧ w'.heap[w.heap.size]? = some (.cells (mltArr m) 27 (0, 0)) ∧ w'.heap[w.heap.size + 1]? = some (.cells (bkArr HA hl.length hc cn sl mo) 54 (0, 0)) ∧ Rd w' w.heap.size 8 A l.length (rT l) ∧ Glob w' ∧ Rd w' w.heap.size 11 HA hl.length (Un.rH hl) ∧ Below w.heap.size w w' ∧ Below W.heap.size W w') := fun w' h => by
  have h1 : Below Z.heap.size Z w' := hXb.trans (h.mono hXb.size)
  have q := HYZ.out w' h1
  exact ⟨(h.block _ (Array.getElem?_eq_some_iff.1 hXr).1).trans hXr, (h1.block _ (Array.getElem?_eq_some_iff.1 HRZ.out).1).trans HRZ.out, q.1, q.2.1, q.2.2.1, q.2.2.2.1, q.2.2.2.2.1, q.2.2.2.2.2, HZ.out.trans (h1.mono zZ)⟩
 have HX : Hid (∀ w', Below X.heap.size X w' → w'.heap[w.heap.size]? = some (.cells (mltArr m) 27 (0, 0)) ∧ Rd w' w.heap.size 8 A l.length (rT l) ∧ Glob w' ∧ Below w.heap.size w w') := fun w' h => ⟨(HXR.out w' h).2.2.1, (HXR.out w' h).2.2.2.2.1, (HXR.out w' h).2.2.2.2.2.1, (HXR.out w' h).2.2.2.2.2.2.2.1⟩
 have HX2 : Hid (∀ w', Below X.heap.size X w' → w'.heap[w.heap.size + 1]? = some (.cells (bkArr HA hl.length hc cn sl mo) 54 (0, 0))) := fun w' h => (HXR.out w' h).2.2.2.1
 rw [← hxq]
 simp only [Act.put]
 clear hX hXb hXr z1 z2 q1 q2 q3 hxq HRZ
 go_upto_region 8 with (fail)
 go_cut [8, 11, 12] from 62 to 73 (fun s14 s12 s13 wx => ∃ (S : Option Addr) (n d xb : Nat) (E : Nat → Int), s12 = .pointer (some ⟨xb, 0, none⟩) ∧ s13 = .slice S n d ∧ s14 = I (xeE m l (j : Int) 1) ∧ n ≤ d ∧ d ≤ maxLen ∧ (xeE m l (j : Int) 1 ≠ 0 → S = none ∧ n = 0 ∧ d = 0 ∧ E = fun _ => 0) ∧ (xeE m l (j : Int) 1 = 0 → n = l.length ∧ E = xeS m mo) ∧ ClIn X.heap.size wx S n (rN3 (xcs m l (atK l (j : Int) l.length) mo)) ∧ wx.heap[xb]? = some (.cells (cnArr E) 43 (0, 0)) ∧ X.heap.size ≤ xb ∧ Below X.heap.size X wx)
 case first =>
  as_aux_lemma =>
   have HK : Hid (∀ w', Below X.heap.size X w' → w'.cell? ⟨w.heap.size, 0, none⟩ = some (I m.ms) ∧ w'.cell? ⟨w.heap.size, 1, none⟩ = some (I (m.ct 0)) ∧ w'.cell? ⟨w.heap.size, 2, none⟩ = some (I (m.ct 1)) ∧ w'.cell? ⟨w.heap.size, 3, none⟩ = some (I (m.ct 2)) ∧ w'.cell? ⟨w.heap.size, 4, none⟩ = some (I (m.ct 3)) ∧ w'.cell? ⟨w.heap.size, 5, none⟩ = some (I (m.ct 4)) ∧ w'.cell? ⟨w.heap.size, 6, none⟩ = some (I (m.ct 5)) ∧ w'.cell? ⟨w.heap.size + 1, 3, none⟩ = some (.bool mo)) := fun w' h => by
        have q := (HX.out w' h).1
        exact ⟨row_c3 q _ _ rfl, row_c3 q _ _ rfl, row_c3 q _ _ rfl, row_c3 q _ _ rfl, row_c3 q _ _ rfl, row_c3 q _ _ rfl, row_c3 q _ _ rfl, row_c3 (HX2.out w' h) 3 _ rfl⟩
   have kb0 : Below X.heap.size X X.drew := (Below.refl _ _).drew
   go_region_held3 (fun w' => w'.cell? ⟨w.heap.size, 0, none⟩ = some (I m.ms) ∧ w'.cell? ⟨w.heap.size, 1, none⟩ = some (I (m.ct 0)) ∧ w'.cell? ⟨w.heap.size, 2, none⟩ = some (I (m.ct 1)) ∧ w'.cell? ⟨w.heap.size, 3, none⟩ = some (I (m.ct 2)) ∧ w'.cell? ⟨w.heap.size, 4, none⟩ = some (I (m.ct 3)) ∧ w'.cell? ⟨w.heap.size, 5, none⟩ = some (I (m.ct 4)) ∧ w'.cell? ⟨w.heap.size, 6, none⟩ = some (I (m.ct 5)) ∧ w'.cell? ⟨w.heap.size + 1, 3, none⟩ = some (.bool mo)) (first
        | exact HK.out _ (by first | assumption | exact Below.alloc ‹Below X.heap.size X _› (Below.size ‹Below X.heap.size X _›) _)
        | (refine HK.out _ (Below.setCell (Below.setCell (Below.setCell (by first | assumption | exact Below.alloc ‹Below X.heap.size X _› (Below.size ‹Below X.heap.size X _›) _) ?_ _) ?_ _) ?_ _) <;> first | exact Nat.le_refl _ | exact Below.size kb0 | exact Below.size kb1 | exact Below.size kb2)
        | trace_state) (first
        | (go_at_call 11; refine (stepsOf_any A l.length c (rT l) _ w.heap.size (by have := Hl40.out; omega) (Below.size (HX.out _ (by first | assumption | exact Below.alloc ‹Below X.heap.size X _› (Below.size ‹Below X.heap.size X _›) _)).2.2.2) (HX.out _ (by first | assumption | exact Below.alloc ‹Below X.heap.size X _› (Below.size ‹Below X.heap.size X _›) _)).2.1).mono ?_; rintro e w1 ⟨A1, c1, rfl, l1, l2, hr1, k1⟩; have kb1 : Below X.heap.size X w1 := Below.trans (by first | assumption | exact Below.alloc ‹Below X.heap.size X _› (Below.size ‹Below X.heap.size X _›) _) (Below.mono k1 (Below.size (by first | assumption | exact Below.alloc ‹Below X.heap.size X _› (Below.size ‹Below X.heap.size X _›) _))); (first | (have hq := (k1.block X.heap.size (by simp)).trans (heap_last X.drew (.cells #[I 0, I 0, I 0] 43) X.heap.size rfl)) | (have hq := (k1.block _ (Array.getElem?_eq_some_iff.1 hq).1).trans hq) | skip); (try (have z0 := row_c3 hq 0 _ rfl; have z1 := row_c3 hq 1 _ rfl; have z2 := row_c3 hq 2 _ rfl; have g0 := frozen_of_row _ _ 0 _ _ hq; have g1 := frozen_of_row _ _ 1 _ _ hq; have g2 := frozen_of_row _ _ 2 _ _ hq)))
        | (go_at_call 12; refine (extreme_uni m A1 c1 l (j : Int) 1 mo _ (HX.out _ (by first | assumption | exact Below.alloc ‹Below X.heap.size X _› (Below.size ‹Below X.heap.size X _›) _)).2.2.1 (by first | exact hr1 | exact (hr1.alloc (Nat.le_refl _) _).more (by simp)) Hk.out Hn.out (by have := Hjf.out; have := Hfl.out; omega)).mono ?_; rintro e w2 ⟨S, n, d, E, rfl, hd1, hd2, hne, heq, hcl, k2⟩; have kb2 : Below X.heap.size X w2 := Below.trans (by first | assumption | exact Below.alloc ‹Below X.heap.size X _› (Below.size ‹Below X.heap.size X _›) _) (Below.mono k2 (Below.size (by first | assumption | exact Below.alloc ‹Below X.heap.size X _› (Below.size ‹Below X.heap.size X _›) _))); (first | (have hq := (k2.block (World.heap w1).size (by simp)).trans (heap_last w1 (.cells #[I 0, I 0, I 0] 43) _ rfl)) | (have hq := (k2.block _ (Array.getElem?_eq_some_iff.1 hq).1).trans hq) | skip); (try (have z0 := row_c3 hq 0 _ rfl; have z1 := row_c3 hq 1 _ rfl; have z2 := row_c3 hq 2 _ rfl; have g0 := frozen_of_row _ _ 0 _ _ hq; have g1 := frozen_of_row _ _ 1 _ _ hq; have g2 := frozen_of_row _ _ 2 _ _ hq))))
   all_goals go_wp2_with fail
   all_goals go_meet
   all_goals
        have s1 := Below.size k1
        have s2 := Below.size k2
        simp at s1 s2
        first
        | exact ⟨S, n, d, w2.heap.size, E, rfl, rfl, rfl, hd1, hd2, hne, heq, hcl.row' (Below.size kb1) fun b o _ ho _ => heap_before ho, heap_last _ _ _ rfl, Below.size kb2, Below.alloc kb2 (Below.size kb2) _⟩
        | exact ⟨S, n, d, _, E, rfl, rfl, rfl, hd1, hd2, hne, heq, hcl.row' (by simp; omega) fun b o hb ho _ => (by simp at hb; exact ro (ro (ro ho (by omega)) (by omega)) (by omega)), rs (rs (rs hq 0 _) 1 _) 2 _, (by omega), (by refine Below.setCell (Below.setCell (Below.setCell kb2 ?_ _) ?_ _) ?_ _ <;> (show X.heap.size ≤ _; (try dsimp only); omega))⟩
        | exact ⟨S, n, d, _, E, rfl, rfl, rfl, hd1, hd2, hne, heq, hcl.row' (by omega) fun b o hb ho _ => ro (ro (ro ho (by omega)) (by omega)) (by omega), rs (rs (rs hq 0 _) 1 _) 2 _, (by omega), (by refine Below.setCell (Below.setCell (Below.setCell kb2 ?_ _) ?_ _) ?_ _ <;> (show X.heap.size ≤ _; (try dsimp only); omega))⟩
 obtain ⟨Ch, n, dc, xb, E, rfl, rfl, rfl, hd1, hd2, hne, heq, hcl, hxr, hxb, hbx⟩ := hcut
 rename World => Y
 have hR := rchd mo Hck.out (show j < fzK l l.length by rw [Hfz.out]; exact hjf) (show 1 < 3 by decide)
 have HHe : xeE m l (j : Int) 1 = 0 := hR.e
 rw [HHe]
 obtain ⟨hnl, hE⟩ := heq HHe
 obtain ⟨cs, hcs⟩ : ∃ q, xcs m l (atK l (j : Int) l.length) mo = q := ⟨_, rfl⟩
 obtain ⟨st, hst⟩ : ∃ q, xeS m mo = q := ⟨_, rfl⟩
 have hcn : cs.length = l.length := by rw [← hcs]; exact xcs_len _ _ _ _
 have hnc : n = cs.length := by omega
 subst hnc
 rw [hcs] at hcl
 rw [hE, hst] at hxr
 have Hcl := Lib.hid hcl
 have Hcs := Lib.hid hcn
 have HRf := Lib.hid hR.f
 have HRv := Lib.hid hR.v
 rw [hcs, hst] at HRf
 rw [hcs] at HRv
 have HYR : Hid (∀ w', Below Y.heap.size Y w' → Below X.heap.size X w') := fun w' h => hbx.trans (h.mono hbx.size)
 have HYX : Hid (∀ w', Below Y.heap.size Y w' → w'.heap[w.heap.size]? = some (.cells (mltArr m) 27 (0, 0)) ∧ Rd w' w.heap.size 8 A l.length (rT l) ∧ Glob w' ∧ Below w.heap.size w w') := fun w' h => HX.out w' (HYR.out w' h)
 have HXb : Hid (∀ w', Below Y.heap.size Y w' → w'.heap[xb]? = some (.cells (cnArr st) 43 (0, 0))) := fun w' h => (h.block xb (Array.getElem?_eq_some_iff.1 hxr).1).trans hxr
 have Hch : Hid (∀ w', Below Y.heap.size Y w' → Rd w' w'.heap.size 3 Ch cs.length (rN3 cs)) := fun w' h => (Hcl.out.rd.below h).more h.size
 clear hR HHe hnl hE hcs hst hcn hcl hxr hne heq hd1 hd2 hxb hbx
 go_upto_region 9 with (fail)
 go_cut [13, 14, 15] from 73 to 83 (fun s15 s16 s17 wx => ∃ (S : Option Addr) (n2 d xb : Nat) (E : Nat → Int), s15 = .slice S n2 d ∧ s16 = .pointer (some ⟨xb, 0, none⟩) ∧ s17 = I (flE m l st cs) ∧ n2 ≤ d ∧ d ≤ maxLen ∧ (flE m l st cs ≠ 0 → S = none ∧ n2 = 0 ∧ d = 0 ∧ E = fun _ => 0) ∧ (flE m l st cs = 0 → n2 = fzK l l.length ∧ E = fun s => wkG m (tdG cs s) s (st s) l l.length) ∧ ClIn Y.heap.size wx S n2 (rN3 (fzL l cs l.length)) ∧ wx.heap[xb]? = some (.cells (cnArr E) 43 (0, 0)) ∧ Y.heap.size ≤ xb ∧ Below Y.heap.size Y wx)
 case first =>
  as_aux_lemma =>
   have HK : Hid (∀ w', Below Y.heap.size Y w' → w'.cell? ⟨w.heap.size, 0, none⟩ = some (I m.ms) ∧ w'.cell? ⟨w.heap.size, 1, none⟩ = some (I (m.ct 0)) ∧ w'.cell? ⟨w.heap.size, 2, none⟩ = some (I (m.ct 1)) ∧ w'.cell? ⟨w.heap.size, 3, none⟩ = some (I (m.ct 2)) ∧ w'.cell? ⟨w.heap.size, 4, none⟩ = some (I (m.ct 3)) ∧ w'.cell? ⟨w.heap.size, 5, none⟩ = some (I (m.ct 4)) ∧ w'.cell? ⟨w.heap.size, 6, none⟩ = some (I (m.ct 5)) ∧ w'.cell? ⟨xb, 0, none⟩ = some (I (st 0)) ∧ w'.cell? ⟨xb, 1, none⟩ = some (I (st 1)) ∧ w'.cell? ⟨xb, 2, none⟩ = some (I (st 2))) := fun w' h => by
        have q := (HYX.out w' h).1
        have p := HXb.out w' h
        exact ⟨row_c3 q _ _ rfl, row_c3 q _ _ rfl, row_c3 q _ _ rfl, row_c3 q _ _ rfl, row_c3 q _ _ rfl, row_c3 q _ _ rfl, row_c3 q _ _ rfl, row_c3 p _ _ rfl, row_c3 p _ _ rfl, row_c3 p _ _ rfl⟩
   have kb0 : Below Y.heap.size Y Y.drew := (Below.refl _ _).drew
   go_region_held3 (fun w' => w'.cell? ⟨w.heap.size, 0, none⟩ = some (I m.ms) ∧ w'.cell? ⟨w.heap.size, 1, none⟩ = some (I (m.ct 0)) ∧ w'.cell? ⟨w.heap.size, 2, none⟩ = some (I (m.ct 1)) ∧ w'.cell? ⟨w.heap.size, 3, none⟩ = some (I (m.ct 2)) ∧ w'.cell? ⟨w.heap.size, 4, none⟩ = some (I (m.ct 3)) ∧ w'.cell? ⟨w.heap.size, 5, none⟩ = some (I (m.ct 4)) ∧ w'.cell? ⟨w.heap.size, 6, none⟩ = some (I (m.ct 5)) ∧ w'.cell? ⟨xb, 0, none⟩ = some (I (st 0)) ∧ w'.cell? ⟨xb, 1, none⟩ = some (I (st 1)) ∧ w'.cell? ⟨xb, 2, none⟩ = some (I (st 2))) (first
        | exact HK.out _ (by first | assumption | exact Below.alloc ‹Below Y.heap.size Y _› (Below.size ‹Below Y.heap.size Y _›) _)
        | (refine HK.out _ (Below.setCell (Below.setCell (Below.setCell (by first | assumption | exact Below.alloc ‹Below Y.heap.size Y _› (Below.size ‹Below Y.heap.size Y _›) _) ?_ _) ?_ _) ?_ _) <;> first | exact Nat.le_refl _ | exact Below.size kb0 | exact Below.size kb1 | exact Below.size kb2)
        | trace_state) (first
        | (go_at_call 11; refine (stepsOf_any A l.length c (rT l) _ w.heap.size (by have := Hl40.out; omega) (Below.size (HYX.out _ (by first | assumption | exact Below.alloc ‹Below Y.heap.size Y _› (Below.size ‹Below Y.heap.size Y _›) _)).2.2.2) (HYX.out _ (by first | assumption | exact Below.alloc ‹Below Y.heap.size Y _› (Below.size ‹Below Y.heap.size Y _›) _)).2.1).mono ?_; rintro e w1 ⟨A1, c1, rfl, l1, l2, hr1, k1⟩; have kb1 : Below Y.heap.size Y w1 := Below.trans (by first | assumption | exact Below.alloc ‹Below Y.heap.size Y _› (Below.size ‹Below Y.heap.size Y _›) _) (Below.mono k1 (Below.size (by first | assumption | exact Below.alloc ‹Below Y.heap.size Y _› (Below.size ‹Below Y.heap.size Y _›) _))); (first | (have hq := (k1.block Y.heap.size (by simp)).trans (heap_last Y.drew (.cells #[I 0, I 0, I 0] 43) Y.heap.size rfl)) | (have hq := (k1.block _ (Array.getElem?_eq_some_iff.1 hq).1).trans hq) | skip); (try (have z0 := row_c3 hq 0 _ rfl; have z1 := row_c3 hq 1 _ rfl; have z2 := row_c3 hq 2 _ rfl; have g0 := frozen_of_row _ _ 0 _ _ hq; have g1 := frozen_of_row _ _ 1 _ _ hq; have g2 := frozen_of_row _ _ 2 _ _ hq)))
        | (go_at_call 13; refine (follow_uni m A1 c1 l st Ch dc cs _ (HYX.out _ (by first | assumption | exact Below.alloc ‹Below Y.heap.size Y _› (Below.size ‹Below Y.heap.size Y _›) _)).2.2.1 (by first | exact hr1 | exact (hr1.alloc (Nat.le_refl _) _).more (by simp)) Hk.out Hn.out (Hch.out _ (by first | assumption | exact Below.alloc ‹Below Y.heap.size Y _› (Below.size ‹Below Y.heap.size Y _›) _)) (by have := Hn.out; have := Hcs.out; omega)).mono ?_; rintro e w2 ⟨S, n2, d, E, rfl, hd1, hd2, hne, heq, hcl, k2⟩; have kb2 : Below Y.heap.size Y w2 := Below.trans (by first | assumption | exact Below.alloc ‹Below Y.heap.size Y _› (Below.size ‹Below Y.heap.size Y _›) _) (Below.mono k2 (Below.size (by first | assumption | exact Below.alloc ‹Below Y.heap.size Y _› (Below.size ‹Below Y.heap.size Y _›) _))); (first | (have hq := (k2.block (World.heap w1).size (by simp)).trans (heap_last w1 (.cells #[I 0, I 0, I 0] 43) _ rfl)) | (have hq := (k2.block _ (Array.getElem?_eq_some_iff.1 hq).1).trans hq) | skip); (try (have z0 := row_c3 hq 0 _ rfl; have z1 := row_c3 hq 1 _ rfl; have z2 := row_c3 hq 2 _ rfl; have g0 := frozen_of_row _ _ 0 _ _ hq; have g1 := frozen_of_row _ _ 1 _ _ hq; have g2 := frozen_of_row _ _ 2 _ _ hq))))
   all_goals go_wp2_with fail
   all_goals go_meet
   all_goals
        have s1 := Below.size k1
        have s2 := Below.size k2
        simp at s1 s2
        first
        | exact ⟨S, n2, d, w2.heap.size, E, rfl, rfl, rfl, hd1, hd2, hne, heq, hcl.row' (Below.size kb1) fun b o _ ho _ => heap_before ho, heap_last _ _ _ rfl, Below.size kb2, Below.alloc kb2 (Below.size kb2) _⟩
        | exact ⟨S, n2, d, _, E, rfl, rfl, rfl, hd1, hd2, hne, heq, hcl.row' (by simp; omega) fun b o hb ho _ => (by simp at hb; exact ro (ro (ro ho (by omega)) (by omega)) (by omega)), rs (rs (rs hq 0 _) 1 _) 2 _, (by omega), (by refine Below.setCell (Below.setCell (Below.setCell kb2 ?_ _) ?_ _) ?_ _ <;> (show Y.heap.size ≤ _; (try dsimp only); omega))⟩
        | exact ⟨S, n2, d, _, E, rfl, rfl, rfl, hd1, hd2, hne, heq, hcl.row' (by omega) fun b o hb ho _ => ro (ro (ro ho (by omega)) (by omega)) (by omega), rs (rs (rs hq 0 _) 1 _) 2 _, (by omega), (by refine Below.setCell (Below.setCell (Below.setCell kb2 ?_ _) ?_ _) ?_ _ <;> (show Y.heap.size ≤ _; (try dsimp only); omega))⟩
 obtain ⟨S2, n2, d2, xb2, E2, rfl, rfl, rfl, hd3', hd4', hne2, heq2, hcl2, hxr2, hxb2, hbx2⟩ := hcut
 rename World => V9
 have HV9 : Hid (∀ w', Below V9.heap.size V9 w' → Below X.heap.size X w') := fun w' h => HYR.out w' (hbx2.trans (h.mono hbx2.size))
 have hn2 : fz = n2 := ((heq2 HRf.out).1.trans Hfz.out).symm
 subst hn2
 rw [HRf.out]
 obtain ⟨b2, cur, hS2, _, hb2, hcur⟩ := hcl2 (by omega)
 subst hS2
 obtain ⟨nn, hnn⟩ : ∃ q, (if mo then xh else xl) = q := ⟨_, rfl⟩
 have z3 : V9.cell? ⟨b2, j * 3 + 1, none⟩ = some (I nn) := by
  rw [cell_of_row _ _ _ _ _ _ hb2, hcur j 1 hjf (by decide)]
  show some (I (at0 (fzL l cs l.length) j 1)) = _
  rw [HRv.out, ← hnn, ← HXL.out, ← HXH.out]
  cases mo <;> rfl
 have HNN := Lib.hid hnn
 have R9 := HXR.out V9 (HV9.out V9 (Below.refl _ _))
 have g0 := row_c3 R9.2.1 0 _ rfl
 have g3 := row_c3 R9.2.2.2.1 3 _ rfl
 have g5 := row_c3 R9.1 0 _ rfl
 have g6 := row_c3 R9.1 1 _ rfl
 have q1 : decide ((j : Int) < (fz : Int)) = true := decide_eq_true (by omega)
 have q2 : decide (j < fz) = true := decide_eq_true hjf
 have q3 : decide (0 ≤ (j : Int)) = true := decide_eq_true (by omega)
 clear hnn R9 hb2 hcur hcl2 heq2 hne2 hxr2 hxb2 hbx2 hd3' hd4' HRv HRf Hch HXb HYX Hcl HX HX2
 go_upto_region 13 with fail
 clear z3 q1 q2 q3 g0
 go_cut [120] from 102 to 120 (fun c wx => c = .bool false ∧ wx = V9)
 case first =>
  rcases mo with _ | _
  · obtain rfl : xl = nn := HNN.out
    have e9 : (xl != xl) = false := by simp
    go_wp2_with fail
    go_meet
    case rel => exact ⟨rfl, rfl⟩
  · obtain rfl : xh = nn := HNN.out
    have e9 : (xh != xh) = false := by simp
    go_wp2_with fail
    go_meet
    case rel => exact ⟨rfl, rfl⟩
 obtain ⟨rfl, hwc⟩ := hcut
 rw [hwc]
 clear hwc g3 g5 g6
 have g1 := row_c3 (HXR.out V9 (HV9.out V9 (Below.refl _ _))).2.2.2.1 1 _ rfl
 go_upto_region 16 with fail
 clear g1
 obtain ⟨v, hv⟩ : ∃ v, bits .and .u8 cn 31 = v := ⟨_, rfl⟩
 have HV : Hid (0 ≤ v ∧ v ≤ 31) := by
  have h1 := Un.and31 ⟨cn.toNat, by have := Hcn.out; omega⟩
  have h2 : ((cn.toNat : Nat) : Int) = cn := Int.toNat_of_nonneg Hcn.out.1
  simp only [h2, hv] at h1
  exact h1
 rw [hv]
 clear hv
 obtain ⟨⟨⟨p1, p2⟩, ⟨p3, p4⟩, er⟩, ha⟩ : ∃ z, Un.anF hl ⟨xl, xh⟩ v = z := ⟨_, rfl⟩
 obtain ⟨⟨⟨v1, v2⟩, ⟨v3, v4⟩, er2⟩, ha2⟩ : ∃ z, Un.anF hl ⟨nn, nn⟩ v = z := ⟨_, rfl⟩
 have CA : Hid (∀ V A' c', Rd V V.heap.size 11 A' hl.length (Un.rH hl) → Calls Tryd.prog 14 #[.slice A' hl.length c', .agg #[I xl, I xh], .int .u8 v] V fun e w' => e = .returned (.tuple #[.agg #[I p1, I p2], .agg #[I p3, I p4], I er]) ∧ Below V.heap.size V w') := fun V A' c' h => by
  have := Un.anneal_any A' c' hl ⟨xl, xh⟩ v V V.heap.size (by have := Hl30.out; omega) (Nat.le_refl _) h HV.out.1
  rw [ha] at this
  exact this
 have CB : Hid (∀ V A' c', Rd V V.heap.size 11 A' hl.length (Un.rH hl) → Calls Tryd.prog 14 #[.slice A' hl.length c', .agg #[I nn, I nn], .int .u8 v] V fun e w' => e = .returned (.tuple #[.agg #[I v1, I v2], .agg #[I v3, I v4], I er2]) ∧ Below V.heap.size V w') := fun V A' c' h => by
  have := Un.anneal_any A' c' hl ⟨nn, nn⟩ v V V.heap.size (by have := Hl30.out; omega) (Nat.le_refl _) h HV.out.1
  rw [ha2] at this
  exact this
 have HAA : Hid (er ≠ 0 → p1 = 0 ∧ p2 = 0 ∧ p3 = 0 ∧ p4 = 0) := fun hne => by
  by_cases he : Un.anE hl ⟨xl, xh⟩ v = 0
  · obtain ⟨_, _, _, _, h1, _⟩ := Un.bk_all (n := nn) (mo := mo) Hl30.out HV.out HNN.out.symm he
    rw [ha] at h1
    injection h1 with h3 h4
    injection h4 with h4 h5
    exact absurd h5 hne
  · have h9 := Un.an_err he
    rw [ha] at h9
    injection h9 with h3 h4
    injection h4 with h4 h5
    injection h3 with h3 h6
    injection h4 with h4 h7
    exact ⟨h3, h6, h4, h7⟩
 have HAB : Hid (er = 0 → er2 = 0 ∧ (p1 ≤ v1 ∧ v2 ≤ p2) ∧ (p3 ≤ v3 ∧ v4 ≤ p4) ∧ (mo = true → v2 = p2 ∧ v4 = p4) ∧ (mo = false → v1 = p1 ∧ v3 = p3)) := fun hz => by
  have he : Un.anE hl ⟨xl, xh⟩ v = 0 := by
   by_cases he : Un.anE hl ⟨xl, xh⟩ v = 0
   · exact he
   · have h9 := Un.an_err he
     rw [ha] at h9
     injection h9 with h3 h4
     injection h4 with h4 h5
     exact absurd (h5.symm.trans hz) he
  obtain ⟨a, b, a', b', h1, h2, i1, i2, m1, m2⟩ := Un.bk_all (n := nn) (mo := mo) Hl30.out HV.out HNN.out.symm he
  rw [ha] at h1
  rw [ha2] at h2
  injection h1 with h3 h4
  injection h4 with h4 h5
  injection h2 with h13 h14
  injection h14 with h14 h15
  subst h3 h4 h13 h14
  exact ⟨h15, i1, i2, m1, m2⟩
 clear ha ha2
 have HHB : Hid (∀ z, Below X.heap.size X (ovr V9 z)) := fun z => HV9.out _ (ovr_below V9 z)
 have HHR : Hid (∀ z, Rd (ovr V9 z) (ovr V9 z).heap.size 11 HA hl.length (Un.rH hl)) := fun z => (HXR.out _ (HHB.out z)).2.2.2.2.2.2.1.more (HXR.out _ (HHB.out z)).2.2.2.2.2.2.2.1.size
 have g0 : ∀ u, (ovr V9 u).cell? ⟨w.heap.size + 1, 0, none⟩ = some (.slice HA hl.length hc) := fun u => row_c3 (HXR.out _ (HHB.out u)).2.2.2.1 0 _ rfl
 have g1 : ∀ u, (ovr V9 u).cell? ⟨xq, 0, none⟩ = some (I xl) := fun u => row_c3 (HXR.out _ (HHB.out u)).1 0 _ rfl
 have g2 : ∀ u, (ovr V9 u).cell? ⟨xq, 1, none⟩ = some (I xh) := fun u => row_c3 (HXR.out _ (HHB.out u)).1 1 _ rfl
 have HL := Hl30
 refine Dl.wp_region_late 13 [9, 10] (fun j => if j = 0 then some Un.Emp else if j = 3 then some (Un.SlAt V9.heap.size 11 hl.length (Un.rH hl)) else if j = 6 then some (fun u _ => u = .tuple #[.agg #[I p1, I p2], .agg #[I p3, I p4], I er]) else if j = 11 then some (NewAt V9 #[I 0, I 0] 23) else if j = 12 then some (NewAt V9 #[I 0, I 0] 23) else none) (by kernel_rfl) (by kernel_rfl) (by kernel_rfl) (by kernel_rfl) [11, 12] (E := 23)
  ⟨by kernel_rfl, Un.alloc_rng, fun j hj => by simp only [List.mem_cons, List.not_mem_nil, or_false] at hj; rcases hj with rfl | rfl <;> exact ⟨_, _, _, rfl⟩⟩ (by kernel_rfl) (fun i hi => by simp only [List.mem_cons, List.not_mem_nil, or_false] at hi; rcases hi with rfl | rfl <;> rfl) (fun c a d v w h => by cases d <;> exact h) ?_
 simp only [List.take_succ_cons, List.take_zero, List.drop_succ_cons, List.drop_zero]
 refine Dk.wpG_make Un.Emp rfl rfl (fun w' hw' _ => ?_) (fun u hu => ?_)
 · go_simp
   exact Un.emp_grow w'
 obtain ⟨_, _, b0, rfl⟩ := hu
 simp only [Act.put, List.setIfInBounds_toArray, List.set_cons_zero, List.set_cons_succ]
 repeat (refine Dk.wpG_one rfl rfl rfl ?_; intro K hK; go_big_quiet_op; go_big_quiet_on)
 skip
 refine Dk.wpG_make (Un.SlAt V9.heap.size 11 hl.length (Un.rH hl)) rfl rfl (fun w' hw' _ => ?_) (fun u hu => ?_)
 · obtain ⟨x, rfl⟩ := hw'
   exact Un.app_grow _ _ 52 rfl 106 j3 _ 11 88 Tryd.underlying52 hj3 kz0 kz1 kz2 rfl (by decide) b0 rfl HA hl.length hc rfl (Un.rH hl) (HHR.out x) (by have := HL.out; omega) (by decide) (ovr_below V9 x).size
 obtain ⟨_, _, A2, c2, rfl, _, _, _⟩ := hu
 simp only [Act.put, List.setIfInBounds_toArray, List.set_cons_zero, List.set_cons_succ]
 repeat (refine Dk.wpG_one rfl rfl rfl ?_; intro K hK; go_big_quiet_op; go_big_quiet_on)
 skip
 refine Dk.wpG_make (fun u _ => u = .tuple #[.agg #[I p1, I p2], .agg #[I p3, I p4], I er]) rfl rfl (fun w' hw' hk => ?_) (fun u hu => ?_)
 · have hk2 := hk ⟨3, .data⟩ (by simp) rfl _ 128 _ rfl rfl rfl (Nat.lt_of_lt_of_eq (by decide : 128 < 229) rfl) rfl
   obtain ⟨A3, c3, he, _, hr, _⟩ := hk2.now
   obtain ⟨rfl, rfl⟩ : A2 = A3 ∧ c2 = c3 := by
    injection he with e1 e2 e3
    exact ⟨e1, e3⟩
   go_simp
   exact call_grow (CA.out w' A2 c2 hr)
 obtain ⟨_, _, rfl⟩ := hu
 simp only [Act.put, List.setIfInBounds_toArray, List.set_cons_zero, List.set_cons_succ]
 repeat (refine Dk.wpG_one rfl rfl rfl ?_; intro K hK; go_big_quiet_op; go_big_quiet_on)
 refine Dk.wpG_make (NewAt V9 #[I 0, I 0] 23) rfl rfl (fun w' hw' _ => ?_) (fun u hu => ?_)
 · go_simp
   exact new_grow hw'
 obtain ⟨_, _, pb, rfl, _, _⟩ := hu
 simp only [Act.put, List.setIfInBounds_toArray, List.set_cons_zero, List.set_cons_succ]
 refine Dk.wpG_new (NewAt V9 #[I 0, I 0] 23) rfl rfl (by simp) ⟨_, _, rfl, rfl, by simp⟩ (fun w' hw' _ => ?_) (fun u hu hne => ?_)
 · go_simp
   exact new_grow hw'
 obtain ⟨_, _, qb, rfl, _, _⟩ := hu
 have hpq := Dk.ptr_ne (hne 11 _ 18 (by omega) rfl (by simp) rfl (by simp))
 simp only [Act.put, List.setIfInBounds_toArray, List.set_cons_zero, List.set_cons_succ]
 refine Dk.wpG_nil (fun w5 hw5 hG => ?_)
 have hn1 := (Box.now hG.1.2).at
 have hn2 := (Box.now hG.2).at
 clear hG hne
 refine Dl.wpTailH_cons ?_
 refine wp_store_row 23 _ _ rfl pb rfl _ _ hn1.1 #[I p1, I p2] rfl (one2 rfl rfl) rfl (by kernel_rfl) ?_
 have hc1 := below_setRow hw5.le hn1.2 #[I p1, I p2]
 refine ⟨Cl.of hc1, ?_⟩
 refine Dl.wpTailH_cons ?_
 refine wp_store_row 23 _ _ rfl qb rfl _ _ ((setRow_other (Ne.symm hpq)).trans hn2.1) #[I p3, I p4] rfl (one2 rfl rfl) rfl (by kernel_rfl) ?_
 have hc2 := below_setRow hc1 hn2.2 #[I p3, I p4]
 refine ⟨Cl.of hc2, ?_⟩
 refine Dl.wpTailH_cons ?_
 refine wp_assign _ (I er) rfl rfl ?_
 refine ⟨Cl.of hc2, ?_⟩
 refine Dl.wpTailH_nil ?_
 simp only [Act.put]
 obtain ⟨V4, hV4⟩ : ∃ V4, V4 = (w5.setRow pb #[I p1, I p2]).setRow qb #[I p3, I p4] := ⟨_, rfl⟩
 have rq : V4.heap[qb]? = some (.cells #[I p3, I p4] 23 (0, 0)) := by rw [hV4]; exact setRow_same ((setRow_other (Ne.symm hpq)).trans hn2.1)
 have rp : V4.heap[pb]? = some (.cells #[I p1, I p2] 23 (0, 0)) := by rw [hV4, setRow_other hpq]; exact setRow_same hn1.1
 have hbV4 : Below V9.heap.size V9 V4 := by rw [hV4]; exact hc2
 rw [← hV4]
 clear hV4 hn1 hn2 hw5 hpq hc1 hc2
 have HV4 : Hid (∀ w', Below V4.heap.size V4 w' → Below X.heap.size X w') := fun w' h => HV9.out w' (hbV4.trans (h.mono hbV4.size))
 have HPB : Hid (∀ w', Below V4.heap.size V4 w' → w'.heap[pb]? = some (.cells #[I p1, I p2] 23 (0, 0)) ∧ w'.heap[qb]? = some (.cells #[I p3, I p4] 23 (0, 0))) := fun w' h => ⟨(h.block _ (Array.getElem?_eq_some_iff.1 rp).1).trans rp, (h.block _ (Array.getElem?_eq_some_iff.1 rq).1).trans rq⟩
 clear CA g0 g1 g2 hbV4 rp rq HHB HHR HV9
 by_cases hte : er = 0
 case neg =>
  obtain ⟨rfl, rfl, rfl, rfl⟩ := HAA.out hte
  have q0 : (er != 0) = true := by simpa using hte
  have HBX : Hid (Below W.heap.size W V4) := (HXR.out V4 (HV4.out V4 (Below.refl _ _))).2.2.2.2.2.2.2.2
  have a0 := row_c3 (HPB.out V4 (Below.refl _ _)).1 0 _ rfl
  have a1 := row_c3 (HPB.out V4 (Below.refl _ _)).1 1 _ rfl
  have a2 := row_c3 (HPB.out V4 (Below.refl _ _)).2 0 _ rfl
  have a3 := row_c3 (HPB.out V4 (Below.refl _ _)).2 1 _ rfl
  clear hte HAA HAB CB
  go_wp2_with fail
  refine (KQ.out _).mono ?_
  rintro e wk ⟨rfl, hbk⟩
  have HK : Hid (Below W.heap.size W wk) := Below.trans HBX.out (hbk.mono (Below.size HBX.out))
  clear hbk
  go_wp2_with fail
  go_ret
  exact ⟨rfl, (HY.out wk HK.out).2.2.2.2.2⟩
 subst hte
 obtain ⟨rfl, h2⟩ := HAB.out rfl
 have HIN := Lib.hid h2
 clear h2 HAA HAB
 go_upto_region 19 with fail
 have R4 := HXR.out V4 (HV4.out V4 (Below.refl _ _))
 have g0 : ∀ o : Obj, (V4.alloc o).cell? ⟨w.heap.size + 1, 0, none⟩ = some (.slice HA hl.length hc) := fun o => row_c3 (HXR.out _ (HV4.out _ ((Below.refl _ _).alloc (Nat.le_refl _) o))).2.2.2.1 0 _ rfl
 have R4H := Lib.hid R4.2.2.2.2.2.2.1
 have R4B := Lib.hid R4.2.2.2.2.2.2.2.1
 clear R4
 go_wp2_with (at_builtin; go_loud (refine wpList_app_lit rfl _ _ 52 rfl 106 j3 _ 11 88 Tryd.underlying52 hj3 kz0 kz1 kz2 rfl (by decide) _ rfl HA hl.length hc rfl (Un.rH hl) ?hr ?hn (by decide) ?_))
 case hr => exact (R4H.out.alloc R4B.out.size _).more (by have := R4B.out.size; simp; omega)
 case hn => have := HL.out; omega
 intro A' c' w6 t1 t2 t3 t4
 have H4 : Hid (Below V4.heap.size V4 w6) := ((Below.refl _ _).alloc (Nat.le_refl _) _).trans (t4.mono (by omega))
 clear t1 t2 t4 g0
 go_wp2_with fail
 refine (CB.out _ _ _ t3).mono ?_
 rintro e w7 ⟨rfl, hb7⟩
 have H7 : Hid (Below V4.heap.size V4 w7) := H4.out.trans (hb7.mono H4.out.size)
 clear t3 H4 hb7
 go_upto_region 20 with fail
 obtain ⟨b8, hb8⟩ : ∃ q, q = w7.heap.size := ⟨_, rfl⟩
 refine name_w fun V8 hV8 => ?_
 have hbV8 : Below V4.heap.size V4 V8 := by rw [hV8]; exact (H7.out.alloc H7.out.size _).alloc (Nat.le_trans H7.out.size (by simp)) _
 have ra : V8.heap[b8]? = some (.cells #[I v1, I v2] 23 (0, 0)) := by rw [hV8, hb8]; exact heap_before (heap_last _ _ _ rfl)
 have rb' : V8.heap[b8 + 1]? = some (.cells #[I v3, I v4] 23 (0, 0)) := by rw [hV8, hb8]; exact heap_last _ _ _ (by simp)
 have HV8 : Hid (∀ w', Below V8.heap.size V8 w' → Below V4.heap.size V4 w') := fun w' h => hbV8.trans (h.mono hbV8.size)
 rw [← hb8]
 clear hb8 hV8 H7
 have R8 := HXR.out V8 (HV4.out V8 hbV8)
 have HBX : Hid (Below W.heap.size W V8) := R8.2.2.2.2.2.2.2.2
 have g3 := row_c3 R8.2.2.2.1 3 _ rfl
 have P8 := HPB.out V8 hbV8
 have a0 := row_c3 P8.1 0 _ rfl
 have a1 := row_c3 P8.1 1 _ rfl
 have a2 := row_c3 P8.2 0 _ rfl
 have a3 := row_c3 P8.2 1 _ rfl
 have a4 := row_c3 ra 0 _ rfl
 have a5 := row_c3 ra 1 _ rfl
 have a6 := row_c3 rb' 0 _ rfl
 have a7 := row_c3 rb' 1 _ rfl
 clear R8 P8 ra rb' hbV8
 have e1 : decide (v1 < p1) = false := decide_eq_false (by have := HIN.out.1.1; omega)
 have e2 : decide (p2 < v2) = false := decide_eq_false (by have := HIN.out.1.2; omega)
 have e3 : decide (v3 < p3) = false := decide_eq_false (by have := HIN.out.2.1.1; omega)
 have e4 : decide (p4 < v4) = false := decide_eq_false (by have := HIN.out.2.1.2; omega)
 go_upto_region 22 with fail
 clear e1 e2 e3 e4
 rcases mo with _ | _
 · obtain ⟨rfl, rfl⟩ := HIN.out.2.2.2 rfl
   clear HIN
   have e5 : (v1 == v1) = true := by simp
   have e6 : (v3 == v3) = true := by simp
   go_wp2_with fail
   refine (KQ.out _).mono ?_
   rintro e wk ⟨rfl, hbk⟩
   have HK : Hid (Below W.heap.size W wk) := Below.trans HBX.out (hbk.mono (Below.size HBX.out))
   clear hbk
   go_wp2_with fail
   go_ret
   exact ⟨rfl, (HY.out wk HK.out).2.2.2.2.2⟩
 · obtain ⟨rfl, rfl⟩ := HIN.out.2.2.1 rfl
   clear HIN
   have e5 : (v2 == v2) = true := by simp
   have e6 : (v4 == v4) = true := by simp
   go_wp2_with fail
   refine (KQ.out _).mono ?_
   rintro e wk ⟨rfl, hbk⟩
   have HK : Hid (Below W.heap.size W wk) := Below.trans HBX.out (hbk.mono (Below.size HBX.out))
   clear hbk
   go_wp2_with fail
   go_ret
   exact ⟨rfl, (HY.out wk HK.out).2.2.2.2.2⟩
end Go.Proofs.YtnkaoplgmglijaaDoor
