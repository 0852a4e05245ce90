/- Contract of Flatness of package finish. -/
import Derived.Test.YtljjpidigckheaaKfp
import Derived.Test.YtljjpidigckheaaRo
namespace Go.Proofs.Ytljjpidigckheaa.Un
open Go.RowKit
theorem Rd.cong9 {w : World} {B sz n : Nat} {A : Option Addr} {g g' : Nat → Nat → Value} (h : Rd w B sz A n g) (e : ∀ k, k < n → ∀ j, j < sz → g k j = g' k j) : Rd w B sz A n g' := fun hn => by
 obtain ⟨b, o, hA, hb, hc⟩ := h hn
 exact ⟨b, o, hA, hb, fun k hk j hj => by rw [← e k hk j hj]; exact hc k hk j hj⟩
theorem gP_rP {W n : Nat} : ∀ k, k < n → ∀ j, j < 3 → gP W k j = rP (gridL W n) k j := fun k hk j hj => by
 have e := gridL_get (W := W) hk
 unfold pt9 at e
 unfold gP rP
 rw [e]
 rfl
theorem gPt_in {W H i : Nat} (hW : 1 ≤ W ∧ W ≤ 6) (hH : H ≤ 6) (h : i < W * H) : InG (gPt W i) := by
 have h1 := Nat.mod_lt i (show 0 < W by omega)
 have h2 : i / W < H := by
  rw [Nat.div_lt_iff_lt_mul (by omega), Nat.mul_comm]
  exact h
 have h3 : W * H ≤ 6 * 6 := Nat.mul_le_mul hW.2 hH
 obtain ⟨a, ha⟩ : ∃ a, i % W = a := ⟨_, rfl⟩
 obtain ⟨b, hb⟩ : ∃ b, i / W = b := ⟨_, rfl⟩
 rw [ha] at h1
 rw [hb] at h2
 unfold InG gPt
 simp only [ha, hb]
 omega
theorem grid_in {W H : Nat} (hW : 1 ≤ W ∧ W ≤ 6) (hH : H ≤ 6) : ∀ q ∈ gridL W (W * H), InG q := fun q hq => by
 obtain ⟨i, hi, rfl⟩ := mem_gPt hq
 exact gPt_in hW hH hi
theorem grid_at {W n : Nat} : ∀ q ∈ gridL W n, q.at_ < n := fun q hq => by
 obtain ⟨i, hi, rfl⟩ := mem_gPt hq
 exact hi
def SlM (sz n : Nat) (g : Nat → Nat → Value) (u : Value) (w : World) : Prop := ∃ A c, u = .slice A n c ∧ n ≤ c ∧ c ≤ maxLen ∧ Rd w w.heap.size sz A n g
theorem SlM.box {sz n : Nat} {g : Nat → Nat → Value} {u : Value} {w : World} (h : SlM sz n g u w) : Box (SlM sz n g) u w := fun w' hl => by
 obtain ⟨A, c, hu, hn, hm, hr⟩ := h
 exact ⟨A, c, hu, hn, hm, (hr.below hl).more hl.size⟩
theorem gridM_any (W H : Nat) (w : World) (hW : 1 ≤ W ∧ W ≤ 6) (hH : H ≤ 6) :
 Calls Try.prog 63 #[I (W : Int), I (H : Int)] w fun e w' => ∃ u, e = .returned u ∧ Le w w' ∧ Box (SlM 3 (W * H) (rP (gridL W (W * H)))) u w' :=
 (grid_any W H w hW hH).mono fun e w' h => by
  obtain ⟨v, rfl, ho, hb⟩ := h
  obtain ⟨A, c, rfl, h1, h2, hr⟩ := Rd.of_own_max ho
  exact ⟨_, rfl, hb, SlM.box ⟨A, c, rfl, h1, h2, Rd.cong9 hr gP_rP⟩⟩
theorem sh_nat {x : Sht} (h : okSh x = true) : ∃ W H : Nat, x.w = (W : Int) ∧ x.h = (H : Int) ∧ (2 ≤ W ∧ W ≤ 6) ∧ (2 ≤ H ∧ H ≤ 6) ∧ x.s.length = W * H := by
 obtain ⟨h1, h2, h3, _, _⟩ := okSh_iff.1 h
 refine ⟨x.w.toNat, x.h.toNat, by omega, by omega, by omega, by omega, ?_⟩
 have e1 : x.w = ((x.w.toNat : Nat) : Int) := by omega
 have e2 : x.h = ((x.h.toNat : Nat) : Int) := by omega
 rw [e1, e2, ← Int.natCast_mul] at h3
 exact_mod_cast h3
theorem sh_z {x : Sht} (h : okSh x = true) : InZ x.s := fun j hj => by
 obtain ⟨_, _, _, h4, _⟩ := okSh_iff.1 h
 have := all9_at h4 hj
 omega
theorem fl9_in {l : List Pt} {zs : List Rng} {g : Bool} (hl : ∀ q ∈ l, InG q) (hn : ∀ q ∈ l, q.at_ < zs.length) (hz : InZ zs) : InF (fl9 l (at0 zs) g) zs.length := by
 rw [← flP_all]
 exact flP_in hl hn hz _
theorem fl9_some {l : List Pt} {z : Nat → Rng} {g : Bool} (h : (fl9 l z g).s = true) : 0 < (fl9 l z g).b.sz ∧ 0 < (fl9 l z g).v := by
 obtain ⟨h1, h2, h3, _⟩ := (fl9_ok l z g).2 h
 exact ⟨both_sz (fun _ h => bals_sz h) _ h1, h3⟩
theorem fl9_fok {l : List Pt} {zs : List Rng} {g : Bool} (hl : ∀ q ∈ l, InG q) (hn : ∀ q ∈ l, q.at_ < zs.length) (hz : InZ zs) (h : (fl9 l (at0 zs) g).s = true) : 0 < (fl9 l (at0 zs) g).b.sz ∧ fok ⟨(fl9 l (at0 zs) g).v, (fl9 l (at0 zs) g).b.sz⟩ = true := by
 obtain ⟨h1, h2⟩ := fl9_some h
 have hf := fl9_in hl hn hz (g := g)
 have hv := hf.v
 have hs := hf.b.sz
 refine ⟨h1, ?_⟩
 exact fok_iff.2 (by simp only; omega)
def FlV (k : Nat) (f : Frc) (l : List Int × List Int) (v : Value) (w : World) : Prop := ∃ S n T m, v = .agg #[I f.n, I f.d, .slice S l.1.length n, .slice T l.2.length m] ∧ (l.1.length ≤ n ∧ n ≤ maxLen) ∧ (l.2.length ≤ m ∧ m ≤ maxLen) ∧ (Rd w w.heap.size 1 S l.1.length (rI l.1) ∧ Rd w w.heap.size 1 T l.2.length (rI l.2)) ∧ (∀ a, S = some a → k ≤ a.block) ∧ ∀ a, T = some a → k ≤ a.block
theorem FlV.below {k : Nat} {f : Frc} {l : List Int × List Int} {v : Value} {w V : World} (h : FlV k f l v w) (hb : Below w.heap.size w V) : FlV k f l v V := by
 obtain ⟨S, n, T, m, hv, h1, h2, ⟨r1, r2⟩, h3⟩ := h
 exact ⟨S, n, T, m, hv, h1, h2, ⟨(r1.below hb).more hb.size, (r2.below hb).more hb.size⟩, h3⟩
theorem rd_set9 {w : World} {sz n q k : Nat} {A : Option Addr} {g : Nat → Nat → Value} (h : Rd w w.heap.size sz A n g) (ha : ∀ a, A = some a → k ≤ a.block) (hq : q < k) (cs : Array Value) : Rd (w.setRow q cs) (w.setRow q cs).heap.size sz A n g := fun h0 => by
 obtain ⟨b, o, hA, hlt, hc⟩ := h h0
 have hb := ha _ hA
 refine ⟨b, o, hA, by rw [setRow_size]; exact hlt, fun k hk j hj => ?_⟩
 rw [← hc k hk j hj]
 unfold World.cell?
 rw [Go.Proofs.Ytljjpidigckheaa.setRow_other (show b ≠ q by intro e; simp only at hb; omega)]
theorem FlV.set {k q : Nat} {f : Frc} {l : List Int × List Int} {v : Value} {w : World} (h : FlV k f l v w) (hq : q < k) (cs : Array Value) : FlV k f l v (w.setRow q cs) := by
 obtain ⟨S, n, T, m, hv, h1, h2, ⟨r1, r2⟩, h3, h4⟩ := h
 exact ⟨S, n, T, m, hv, h1, h2, ⟨rd_set9 r1 h3 hq cs, rd_set9 r2 h4 hq cs⟩, h3, h4⟩
theorem FlV.less {k k' : Nat} {f : Frc} {l : List Int × List Int} {v : Value} {w : World} (h : FlV k f l v w) (hk : k' ≤ k) : FlV k' f l v w := by
 obtain ⟨S, n, T, m, hv, h1, h2, r, h3, h4⟩ := h
 exact ⟨S, n, T, m, hv, h1, h2, r, fun a h => Nat.le_trans hk (h3 a h), fun a h => Nat.le_trans hk (h4 a h)⟩
theorem FlV.of {w w' : World} {f : Frc} {l : List Int × List Int} {e : Ending} (h : RetFl w f l e w') : ∃ v, e = .returned v ∧ FlV w.heap.size f l v w' := by
 obtain ⟨⟨S, n, T, m, he, h1, h2, h3, h4, r1, r2, h5, h6⟩, _⟩ := h
 exact ⟨_, he, S, n, T, m, rfl, ⟨h1, h2⟩, ⟨h3, h4⟩, ⟨r1, r2⟩, h5, h6⟩
theorem FlV.zero (k : Nat) (w : World) : FlV k ⟨0, 0⟩ ([], []) (.agg #[I 0, I 0, .slice none 0 0, .slice none 0 0]) w := ⟨none, 0, none, 0, rfl, ⟨Nat.le_refl _, Nat.zero_le _⟩, ⟨Nat.le_refl _, Nat.zero_le _⟩, ⟨Rd.nil, Rd.nil⟩, fun _ h => (by cases h), fun _ h => (by cases h)⟩
def RetFF (w : World) (q : (Frc × (List Int × List Int)) × (Frc × (List Int × List Int)) × Int) (e : Ending) (w' : World) : Prop := ∃ v1 v2, e = .returned (.tuple #[v1, v2, I q.2.2]) ∧ FlV w.heap.size q.1.1 q.1.2 v1 w' ∧ FlV w.heap.size q.2.1.1 q.2.1.2 v2 w' ∧ Below w.heap.size w w'
def shG (x : Sht) : List Pt := gridL x.w.toNat x.s.length
def ff9 (x : Sht) (g : Bool) : Frc × (List Int × List Int) := (ds9 (fl9 (shG x) (at0 x.s) g), flS (fl9 (shG x) (at0 x.s) g))
def flF (x : Sht) : (Frc × (List Int × List Int)) × (Frc × (List Int × List Int)) × Int := if okSh x then (ff9 x false, ff9 x true, 0) else ((⟨0, 0⟩, ([], [])), (⟨0, 0⟩, ([], [])), 2)
theorem alloc_prf (w : World) : ∃ w', (Instr.alloc 137 true (.tuple #[])).run Try.prog w = .ok (.pointer (some ⟨w.heap.size, 0, none⟩)) w' := ⟨w.alloc (.cells (pfA pf0) 137), by kernel_rfl⟩
theorem setCell_id {w : World} {k i : Nat} {cs : Array Value} {t : TypeId} {v : Value} (h : w.heap[k]? = some (.cells cs t (0, 0))) (hv : cs[i]? = some v) : w.setCell ⟨k, i, none⟩ v = w := by
 have e : cs.setIfInBounds i v = cs := by
  apply Array.ext_getElem?
  intro j
  rw [Array.getElem?_setIfInBounds]
  split
  · rename_i h'; subst h'
    split
    · exact hv.symm
    · rename_i h2; rw [Array.getElem?_eq_none (by omega)]
  · rfl
 have : (w.heap.modify k fun | .cells c elem frozen => .cells (if (none : Option Nat).isSome then c else c.setIfInBounds i v) elem frozen | o => o) = w.heap := by
  apply Array.ext_getElem?
  intro j
  rw [Array.getElem?_modify]
  split
  · rename_i h'; subst h'
    rw [h]
    simp [e]
  · rfl
 exact congrArg (fun h => { w with heap := h }) this
theorem four_id {X : World} {b1 b2 : Nat} {t1 t2 : TypeId} {x0 x1 x2 x3 y0 y1 y2 y3 : Value} (h1 : X.heap[b1]? = some (.cells #[x0, x1, x2, x3] t1 (0, 0))) (h2 : X.heap[b2]? = some (.cells #[y0, y1, y2, y3] t2 (0, 0))) : (X.setRow b1 #[x0, x1, x2, x3]).setRow b2 #[y0, y1, y2, y3] = X := by
 rw [setRow_id h1, setRow_id h2]
theorem results_rows_t {P : Program} {fn : Func} {p q t1 : Tmp} {ty ty' : TypeId} (h : fn.results = #[.cell p ty, .cell q ty', .tmp t1]) (tmps : Array Value) (w : World) (g g' : Nat) (t t' : TypeId) (cs cs' : Array Value) (fr fr' : Nat × Nat) (d d' : TypeDesc)
 (hp : tmps.getD p undef = .pointer (some ⟨g, 0, none⟩)) (hg : w.heap[g]? = some (.cells cs t fr)) (hq : tmps.getD q undef = .pointer (some ⟨g', 0, none⟩)) (hg' : w.heap[g']? = some (.cells cs' t' fr'))
 (hu : P.underlying ty = some d) (hd : (match d with | .struct _ | .array _ _ => true | _ => false) = true) (hi : (P.info? ty).map (·.size) = some cs.size)
 (hu' : P.underlying ty' = some d') (hd' : (match d' with | .struct _ | .array _ _ => true | _ => false) = true) (hi' : (P.info? ty').map (·.size) = some cs'.size) :
 (results fn tmps).run P w = .ok (.tuple #[.agg cs, .agg cs', tmps.getD t1 undef]) w := by
 have hp' : tmps[p]?.getD undef = .pointer (some ⟨g, 0, none⟩) := by simpa using hp
 have hq' : tmps[q]?.getD undef = .pointer (some ⟨g', 0, none⟩) := by simpa using hq
 simp [results, h, hp', hq', asAddr, run_loadVar_row w g t ty cs fr d hg hu hd hi, run_loadVar_row w g' t' ty' cs' fr' d' hg' hu' hd' hi']
set_option maxRecDepth 100000 in
set_option maxHeartbeats 8000000 in
theorem flatness0_any (x : Sht) (A : Option Addr) (n : Nat) (w : World) (B : Nat) (hn : x.s.length ≤ n ∧ n ≤ maxLen) (hB : B ≤ w.heap.size) (hx : Rd w B 2 A x.s.length (rR x.s)) :
 Calls Try.prog 32 #[.agg (shA x A n)] w (RetFF w (flF x)) := by
 have HRD : Hid (∀ V, Below w.heap.size w V → Rd V B 2 A x.s.length (rR x.s) ∧ B ≤ V.heap.size) := fun V hV => ⟨hx.below (hV.mono hB), Nat.le_trans hB hV.size⟩
 have HN := Lib.hid hn
 clear hx hB hn
 obtain ⟨W, hW⟩ : ∃ W, W = (((w.alloc (.cells #[I x.w, I x.h, I x.c.lo, I x.c.hi, .slice A x.s.length n] 37)).alloc (.cells #[I 0, I 0, .slice none 0 0, .slice none 0 0] 60)).alloc (.cells #[I 0, I 0, .slice none 0 0, .slice none 0 0] 60)) := ⟨_, rfl⟩
 have rowW0 : W.heap[w.heap.size]? = some (.cells #[I x.w, I x.h, I x.c.lo, I x.c.hi, .slice A x.s.length n] 37 (0, 0)) := by rw [hW]; exact heap_before (heap_before (heap_last _ _ _ rfl))
 have yW00 := ovr_cell (W := W) (b := w.heap.size) (o := 0) (v := I x.w) (by rw [cell_of_row _ _ _ _ _ _ rowW0]; rfl)
 have yW01 := ovr_cell (W := W) (b := w.heap.size) (o := 1) (v := I x.h) (by rw [cell_of_row _ _ _ _ _ _ rowW0]; rfl)
 have yW02 := ovr_cell (W := W) (b := w.heap.size) (o := 2) (v := I x.c.lo) (by rw [cell_of_row _ _ _ _ _ _ rowW0]; rfl)
 have yW03 := ovr_cell (W := W) (b := w.heap.size) (o := 3) (v := I x.c.hi) (by rw [cell_of_row _ _ _ _ _ _ rowW0]; rfl)
 have yW04 := ovr_cell (W := W) (b := w.heap.size) (o := 4) (v := .slice A x.s.length n) (by rw [cell_of_row _ _ _ _ _ _ rowW0]; rfl)
 have RrowW0 := Lib.hid (ovr_row rowW0)
 clear rowW0
 have rowW1 : W.heap[w.heap.size + 1]? = some (.cells #[I 0, I 0, .slice none 0 0, .slice none 0 0] 60 (0, 0)) := by rw [hW]; exact heap_before (heap_last _ _ _ (by simp))
 have yW10 := ovr_cell (W := W) (b := w.heap.size + 1) (o := 0) (v := I 0) (by rw [cell_of_row _ _ _ _ _ _ rowW1]; rfl)
 have yW11 := ovr_cell (W := W) (b := w.heap.size + 1) (o := 1) (v := I 0) (by rw [cell_of_row _ _ _ _ _ _ rowW1]; rfl)
 have yW12 := ovr_cell (W := W) (b := w.heap.size + 1) (o := 2) (v := .slice none 0 0) (by rw [cell_of_row _ _ _ _ _ _ rowW1]; rfl)
 have yW13 := ovr_cell (W := W) (b := w.heap.size + 1) (o := 3) (v := .slice none 0 0) (by rw [cell_of_row _ _ _ _ _ _ rowW1]; rfl)
 have RrowW1 := Lib.hid (ovr_row rowW1)
 clear rowW1
 have rowW2 : W.heap[w.heap.size + 1 + 1]? = some (.cells #[I 0, I 0, .slice none 0 0, .slice none 0 0] 60 (0, 0)) := by rw [hW]; exact heap_last _ _ _ (by simp)
 have yW20 := ovr_cell (W := W) (b := w.heap.size + 1 + 1) (o := 0) (v := I 0) (by rw [cell_of_row _ _ _ _ _ _ rowW2]; rfl)
 have yW21 := ovr_cell (W := W) (b := w.heap.size + 1 + 1) (o := 1) (v := I 0) (by rw [cell_of_row _ _ _ _ _ _ rowW2]; rfl)
 have yW22 := ovr_cell (W := W) (b := w.heap.size + 1 + 1) (o := 2) (v := .slice none 0 0) (by rw [cell_of_row _ _ _ _ _ _ rowW2]; rfl)
 have yW23 := ovr_cell (W := W) (b := w.heap.size + 1 + 1) (o := 3) (v := .slice none 0 0) (by rw [cell_of_row _ _ _ _ _ _ rowW2]; rfl)
 have RrowW2 := Lib.hid (ovr_row rowW2)
 clear rowW2
 have HUW : Hid (∀ u, Below w.heap.size w (ovr W u)) := U3 hW
 have HW := Lib.hid hW
 clear hW
 go_enter Try.func32, Try.ntmps32
 go_upto_region 1 with (fail)
 rw [← HW.out]
 obtain ⟨u0, hu0⟩ := ovr_self W
 rw [hu0]
 clear hu0
 go_wp2_with fail
 refine (checkSheet_any x A n _ B (HRD.out _ (HUW.out u0)).2 (HRD.out _ (HUW.out u0)).1).mono ?_
 rintro e w1 ⟨rfl, hb1⟩
 obtain ⟨u1, rfl⟩ := ovr_next hb1
 clear hb1
 rcases ho : okSh x with _ | _
 · have hf : Hid (flF x = ((⟨0, 0⟩, ([], [])), (⟨0, 0⟩, ([], [])), 2)) := by show _ = _; unfold flF; rw [ho]; rfl
   go_upto_region 2 with fail
   have z10 : (ovr W u1).frozen? ⟨w.heap.size + 1, 0, none⟩ = false := frozen_of_row _ _ _ _ _ (RrowW1.out u1)
   have z11 : (ovr W u1).frozen? ⟨w.heap.size + 1, 1, none⟩ = false := frozen_of_row _ _ _ _ _ (RrowW1.out u1)
   have z12 : (ovr W u1).frozen? ⟨w.heap.size + 1, 2, none⟩ = false := frozen_of_row _ _ _ _ _ (RrowW1.out u1)
   have z13 : (ovr W u1).frozen? ⟨w.heap.size + 1, 3, none⟩ = false := frozen_of_row _ _ _ _ _ (RrowW1.out u1)
   have z20 : (ovr W u1).frozen? ⟨w.heap.size + 1 + 1, 0, none⟩ = false := frozen_of_row _ _ _ _ _ (RrowW2.out u1)
   have z21 : (ovr W u1).frozen? ⟨w.heap.size + 1 + 1, 1, none⟩ = false := frozen_of_row _ _ _ _ _ (RrowW2.out u1)
   have z22 : (ovr W u1).frozen? ⟨w.heap.size + 1 + 1, 2, none⟩ = false := frozen_of_row _ _ _ _ _ (RrowW2.out u1)
   have z23 : (ovr W u1).frozen? ⟨w.heap.size + 1 + 1, 3, none⟩ = false := frozen_of_row _ _ _ _ _ (RrowW2.out u1)
   go_region
   rw [setCell_id (RrowW1.out u1) (i := 0) (v := Value.int IntKind.i64 0) rfl, setCell_id (RrowW1.out u1) (i := 1) (v := Value.int IntKind.i64 0) rfl, setCell_id (RrowW1.out u1) (i := 2) (v := Value.slice none 0 0) rfl, setCell_id (RrowW1.out u1) (i := 3) (v := Value.slice none 0 0) rfl, setCell_id (RrowW2.out u1) (i := 0) (v := Value.int IntKind.i64 0) rfl, setCell_id (RrowW2.out u1) (i := 1) (v := Value.int IntKind.i64 0) rfl, setCell_id (RrowW2.out u1) (i := 2) (v := Value.slice none 0 0) rfl, setCell_id (RrowW2.out u1) (i := 3) (v := Value.slice none 0 0) rfl]
   go_wp2_with fail
   refine bodyPost_ret (results_rows_t rfl _ _ (w.heap.size + 1) (w.heap.size + 1 + 1) 60 60 _ _ (0, 0) (0, 0) _ _ rfl (RrowW1.out u1) rfl (RrowW2.out u1) Try.underlying60 rfl (by kernel_rfl) Try.underlying60 rfl (by kernel_rfl)) rfl ?_
   rw [hf.out]
   exact ⟨_, _, rfl, FlV.zero _ _, FlV.zero _ _, (HUW.out u1).trans (Below.refl _ _).drew⟩
 have hf : Hid (flF x = (ff9 x false, ff9 x true, 0)) := by show _ = _; unfold flF; rw [ho]; rfl
 obtain ⟨WW, HH, eW, eH, bW, bH, eL⟩ := sh_nat ho
 have HZ := Lib.hid (sh_z ho)
 have HG : Hid (shG x = gridL WW (WW * HH)) := by show _ = _; unfold shG; rw [eW, eL]; rfl
 have HIG : Hid (∀ q ∈ gridL WW (WW * HH), InG q) := grid_in ⟨by omega, bW.2⟩ bH.2
 have HAT : Hid (∀ q ∈ gridL WW (WW * HH), q.at_ < x.s.length) := by show ∀ q ∈ _, _; rw [eL]; exact grid_at
 have HLL : Hid ((gridL WW (WW * HH)).length = WW * HH ∧ WW * HH ≤ 36) := ⟨gridL_len _ _, Nat.mul_le_mul bW.2 bH.2⟩
 have HWH := Lib.hid (And.intro bW bH)
 have HEL := Lib.hid eL
 obtain ⟨p1, hp1⟩ : ∃ p, fl9 (gridL WW (WW * HH)) (at0 x.s) false = p := ⟨_, rfl⟩
 obtain ⟨p2, hp2⟩ : ∃ p, fl9 (gridL WW (WW * HH)) (at0 x.s) true = p := ⟨_, rfl⟩
 have HFK : Hid ((p1.s = true → 0 < p1.b.sz ∧ fok ⟨p1.v, p1.b.sz⟩ = true) ∧ (p2.s = true → 0 < p2.b.sz ∧ fok ⟨p2.v, p2.b.sz⟩ = true)) := by
  show _ ∧ _
  rw [← hp1, ← hp2]
  exact ⟨fl9_fok HIG.out HAT.out HZ.out, fl9_fok HIG.out HAT.out HZ.out⟩
 have HP : Hid (ff9 x false = (ds9 p1, flS p1) ∧ ff9 x true = (ds9 p2, flS p2)) := by
  show _ ∧ _
  unfold ff9
  rw [HG.out, hp1, hp2]
  exact ⟨rfl, rfl⟩
 have CF : Hid (∀ V C d, Below w.heap.size w V → WW * HH ≤ d ∧ d ≤ maxLen → Rd V V.heap.size 3 C (WW * HH) (rP (gridL WW (WW * HH))) → Calls Try.prog 64 #[.slice C (WW * HH) d, .slice A x.s.length n] V fun e w' => e = .returned (.tuple #[.agg (pfA p1), .agg (pfA p2)]) ∧ Below V.heap.size V w') := fun V C d hV hd hr => by
  have := flatness_any (gridL WW (WW * HH)) C d A n x.s V.heap.size V HIG.out (by rw [HLL.out.1]; exact HLL.out.2) (by rw [HLL.out.1]; exact hd) HAT.out HZ.out (Nat.le_refl _) (by rw [HLL.out.1]; exact hr) ((HRD.out V hV).1.more (HRD.out V hV).2)
  rw [HLL.out.1, hp1, hp2] at this
  exact this
 have CG : Hid (∀ V, Calls Try.prog 63 #[I (WW : Int), I (HH : Int)] V fun e w' => ∃ u, e = .returned u ∧ Le V w' ∧ Box (SlM 3 (WW * HH) (rP (gridL WW (WW * HH)))) u w') := fun V => gridM_any WW HH V ⟨by omega, bW.2⟩ bH.2
 clear eL bW bH ho hp1 hp2
 go_upto_region 3 with fail
 have hbX := ovr_below W u1
 obtain ⟨X, hX⟩ : ∃ X, X = ovr W u1 := ⟨_, rfl⟩
 rw [← hX] at hbX
 rw [← hX]
 have hX' := Lib.hid hX
 clear hX
 have hbX' := Lib.hid hbX
 have reX : ∀ v, ∃ x, ovr X v = ovr W x := fun v => ovr_reB hbX v
 replace yW00 := tr_cell reX yW00
 replace yW01 := tr_cell reX yW01
 replace yW02 := tr_cell reX yW02
 replace yW03 := tr_cell reX yW03
 replace yW04 := tr_cell reX yW04
 replace RrowW0 := Lib.hid (tr_row reX RrowW0.out)
 replace yW10 := tr_cell reX yW10
 replace yW11 := tr_cell reX yW11
 replace yW12 := tr_cell reX yW12
 replace yW13 := tr_cell reX yW13
 replace RrowW1 := Lib.hid (tr_row reX RrowW1.out)
 replace yW20 := tr_cell reX yW20
 replace yW21 := tr_cell reX yW21
 replace yW22 := tr_cell reX yW22
 replace yW23 := tr_cell reX yW23
 replace RrowW2 := Lib.hid (tr_row reX RrowW2.out)
 have HUX : Hid (∀ u, Below w.heap.size w (ovr X u)) := fun u => by obtain ⟨x, hx⟩ := reX u; rw [hx]; exact HUW.out x
 clear reX hbX
 simp only [eW, eH] at yW00 yW01
 refine Dl.wp_region_late 13 [10] (fun j => if j = 4 then some (SlM 3 (WW * HH) (rP (gridL WW (WW * HH)))) else if j = 7 then some (fun u _ => u = .tuple #[.agg (pfA p1), .agg (pfA p2)]) else if j = 11 then some (NewAt X (pfA pf0) 137) else if j = 12 then some (NewAt X (pfA pf0) 137) else none) (by kernel_rfl) (by kernel_rfl) (by kernel_rfl) (by kernel_rfl) [11, 12] (E := 137)
  ⟨by kernel_rfl, alloc_prf, fun j hj => by simp only [List.mem_cons, List.not_mem_nil, or_false] at hj; rcases hj with rfl | rfl <;> exact ⟨_, _, _, rfl⟩⟩ (by kernel_rfl) (fun i hi => by simp only [List.mem_cons, List.not_mem_nil, or_false] at hi; rcases hi with rfl; rfl) (fun c a d v w h => by cases d <;> exact h) ?_
 simp only [List.take_succ_cons, List.take_zero, List.drop_succ_cons, List.drop_zero]
 repeat (refine Dk.wpG_one rfl rfl rfl ?_; intro K hK; go_big_quiet_op; go_big_quiet_on)
 refine Dk.wpG_make (SlM 3 (WW * HH) (rP (gridL WW (WW * HH)))) rfl rfl (fun w' hw' _ => ?_) (fun u hu => ?_)
 · go_simp
   exact CG.out w'
 obtain ⟨_, _, A2, c2, rfl, hc1, hc2, _⟩ := hu
 simp only [Act.put, List.setIfInBounds_toArray, List.set_cons_zero, List.set_cons_succ]
 repeat (refine Dk.wpG_one rfl rfl rfl ?_; intro K hK; go_big_quiet_op; go_big_quiet_on)
 refine Dk.wpG_make (fun u _ => u = .tuple #[.agg (pfA p1), .agg (pfA p2)]) rfl rfl (fun w' hw' hk => ?_) (fun u hu => ?_)
 · have hk2 := hk ⟨4, .data⟩ (by simp) rfl _ 17 _ rfl rfl rfl (Nat.lt_of_lt_of_eq (by decide : 17 < 25) rfl) rfl
   obtain ⟨A3, c3, he, _, _, hr⟩ := hk2.now
   obtain ⟨rfl, rfl⟩ : A2 = A3 ∧ c2 = c3 := by
    injection he with e1 e2 e3
    exact ⟨e1, e3⟩
   go_simp
   exact call_grow (CF.out w' A2 c2 ((below_self HUX.out).trans (hw'.le.mono (below_self HUX.out).size)) ⟨hc1, hc2⟩ hr)
 obtain ⟨_, _, rfl⟩ := hu
 simp only [Act.put, List.setIfInBounds_toArray, List.set_cons_zero, List.set_cons_succ]
 repeat (refine Dk.wpG_one rfl rfl rfl ?_; intro K hK; go_big_quiet_op; go_big_quiet_on)
 refine Dk.wpG_make (NewAt X (pfA pf0) 137) rfl rfl (fun w' hw' _ => ?_) (fun u hu => ?_)
 · go_simp
   exact new_grow hw'
 obtain ⟨_, _, PB, rfl, _, _⟩ := hu
 simp only [Act.put, List.setIfInBounds_toArray, List.set_cons_zero, List.set_cons_succ]
 refine Dk.wpG_new (NewAt X (pfA pf0) 137) rfl rfl (by simp) ⟨_, _, rfl, rfl, by simp⟩ (fun w' hw' _ => ?_) (fun u hu hne => ?_)
 · go_simp
   exact new_grow hw'
 obtain ⟨_, _, QB, rfl, _, _⟩ := hu
 have hpq := Dk.ptr_ne (hne 11 _ 5 (by omega) rfl (by simp) rfl (by simp))
 simp only [Act.put, List.setIfInBounds_toArray, List.set_cons_zero, List.set_cons_succ]
 refine Dk.wpG_nil (fun w5 hw5 hG => ?_)
 have hn1 := (Box.now hG.1.2).at
 have hn2 := (Box.now hG.2).at
 clear hG hne
 refine Dl.wpTailH_cons ?_
 refine wp_store_row 137 _ _ rfl PB rfl _ _ hn1.1 (pfA p1) rfl (by simp [Value.oneCell']) rfl (by kernel_rfl) ?_
 have hc1 := below_setRow hw5.le hn1.2 (pfA p1)
 refine ⟨Cl.of hc1, ?_⟩
 refine Dl.wpTailH_cons ?_
 refine wp_store_row 137 _ _ rfl QB rfl _ _ ((setRow_other (Ne.symm hpq)).trans hn2.1) (pfA p2) rfl (by simp [Value.oneCell']) rfl (by kernel_rfl) ?_
 have hc2 := below_setRow hc1 hn2.2 (pfA p2)
 refine ⟨Cl.of hc2, ?_⟩
 refine Dl.wpTailH_nil ?_
 simp only [Act.put]
 obtain ⟨Z, hZ⟩ : ∃ Z, Z = (w5.setRow PB (pfA p1)).setRow QB (pfA p2) := ⟨_, rfl⟩
 have rq : Z.heap[QB]? = some (.cells (pfA p2) 137 (0, 0)) := by rw [hZ]; exact setRow_same ((setRow_other (Ne.symm hpq)).trans hn2.1)
 have rp : Z.heap[PB]? = some (.cells (pfA p1) 137 (0, 0)) := by rw [hZ, setRow_other hpq]; exact setRow_same hn1.1
 have hbZ : Below X.heap.size X Z := by rw [hZ]; exact hc2
 rw [← hZ]
 obtain ⟨z1, hz1⟩ : ∃ z, Z = ovr X z := ⟨Z, ovr_of hbZ⟩
 have HR := Lib.hid (And.intro rp (And.intro rq (And.intro (show Z.heap[w.heap.size + 1]? = some (.cells #[I 0, I 0, .slice none 0 0, .slice none 0 0] 60 (0, 0)) by rw [hz1]; exact RrowW1.out z1) (And.intro (show Z.heap[w.heap.size + 1 + 1]? = some (.cells #[I 0, I 0, .slice none 0 0, .slice none 0 0] 60 (0, 0)) by rw [hz1]; exact RrowW2.out z1) (show Below w.heap.size w Z by rw [hz1]; exact HUX.out z1)))))
 clear hZ hn1 hn2 hw5 hpq hc1 hc2 rq rp hbZ hz1 yW00 yW01 yW02 yW03 yW04
 go_wp2_with fail
 refine (flat_any p1 PB Z HR.out.1 HFK.out.1).mono ?_
 rintro e Z1 hr1
 obtain ⟨v1, rfl, hv1⟩ := FlV.of hr1
 have HB1 := Lib.hid (And.intro hv1 hr1.below)
 clear hr1 hv1
 go_wp2_with fail
 refine (flat_any p2 QB Z1 ((HB1.out.2.block _ (lt_of_row HR.out.2.1)).trans HR.out.2.1) HFK.out.2).mono ?_
 rintro e Z2 hr2
 obtain ⟨v2, rfl, hv2⟩ := FlV.of hr2
 have HB2 := Lib.hid (And.intro hv2 hr2.below)
 clear hr2 hv2
 have hb : Below Z.heap.size Z Z2 := HB1.out.2.trans (HB2.out.2.mono HB1.out.2.size)
 have r1 := (hb.block _ (lt_of_row HR.out.2.2.1)).trans HR.out.2.2.1
 have r2 := (hb.block _ (lt_of_row HR.out.2.2.2.1)).trans HR.out.2.2.2.1
 have l1 := lt_of_row HR.out.2.2.1
 have l2 := lt_of_row HR.out.2.2.2.1
 have g1 := HB1.out.1.below HB2.out.2
 have g2 := HB2.out.1.less HB1.out.2.size
 obtain ⟨S1, n1, T1, m1, rfl, q1⟩ := g1
 obtain ⟨S2, n2, T2, m2, rfl, q2⟩ := g2
 have HE := Lib.hid (And.intro r1 (And.intro r2 (And.intro (And.intro l1 l2) (And.intro q1 (And.intro q2 (HR.out.2.2.2.2.trans (hb.mono HR.out.2.2.2.2.size)))))))
 clear r1 r2 l1 l2 q1 q2 hb
 go_wp2_with (first | (with_reducible show wpList _ _ _ _ _ _; refine wpList_store_row rfl 60 _ _ rfl (w.heap.size + 1) rfl _ _ HE.out.1 #[I (ds9 p1).n, I (ds9 p1).d, .slice S1 (flS p1).1.length n1, .slice T1 (flS p1).2.length m1] rfl (by simp [Value.oneCell']) rfl (by kernel_rfl) ?_) | (with_reducible show wpList _ _ _ _ _ _; refine wpList_store_row rfl 60 _ _ rfl (w.heap.size + 1 + 1) rfl _ _ ((Go.Proofs.Ytljjpidigckheaa.setRow_other (by omega)).trans HE.out.2.1) #[I (ds9 p2).n, I (ds9 p2).d, .slice S2 (flS p2).1.length n2, .slice T2 (flS p2).2.length m2] rfl (by simp [Value.oneCell']) rfl (by kernel_rfl) ?_))
 refine bodyPost_ret (results_rows_t rfl _ _ (w.heap.size + 1) (w.heap.size + 1 + 1) 60 60 _ _ (0, 0) (0, 0) _ _ rfl ((Go.Proofs.Ytljjpidigckheaa.setRow_other (by omega)).trans (setRow_same HE.out.1)) rfl (setRow_same ((Go.Proofs.Ytljjpidigckheaa.setRow_other (by omega)).trans HE.out.2.1)) Try.underlying60 rfl (by kernel_rfl) Try.underlying60 rfl (by kernel_rfl)) rfl ?_
 rw [hf.out, HP.out.1, HP.out.2]
 obtain ⟨_, _, ⟨l1, l2⟩, q1, q2, hb⟩ := HE.out
 have g1 : FlV Z.heap.size (ds9 p1) (flS p1) _ Z2 := ⟨S1, n1, T1, m1, rfl, q1⟩
 have g2 : FlV Z.heap.size (ds9 p2) (flS p2) _ Z2 := ⟨S2, n2, T2, m2, rfl, q2⟩
 exact ⟨_, _, rfl, ((g1.set l1 _).set l2 _).less HR.out.2.2.2.2.size, ((g2.set l1 _).set l2 _).less HR.out.2.2.2.2.size, below_setRow (below_setRow hb (by omega) _) (by omega) _⟩
end Go.Proofs.Ytljjpidigckheaa.Un
