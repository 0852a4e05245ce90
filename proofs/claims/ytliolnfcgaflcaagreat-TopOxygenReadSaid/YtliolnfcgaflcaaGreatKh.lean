/- Contract of Best of package finish. -/
import Derived.Test.YtliolnfcgaflcaaGreatKe
import Derived.Test.YtliolnfcgaflcaaGreatKg
namespace Go.Proofs.YtliolnfcgaflcaaGreat.Un
open Go.RowKit
theorem rP_snoc (l : List Pt) (q : Pt) : flat 3 (rP (l ++ [q])) (l.length + 1) = flat 3 (rP l) l.length ++ [I (q.at_ : Int), I q.x, I q.y] := by
 rw [flat_succ 3 (by decide)]
 have e : flat 3 (rP (l ++ [q])) l.length = flat 3 (rP l) l.length := flat_congr fun k hk j _ => by
  unfold rP
  rw [List.getD_eq_getElem?_getD, List.getElem?_append_left hk, ← List.getD_eq_getElem?_getD]
 have e2 : (l ++ [q]).getD l.length ⟨0, 0, 0⟩ = q := by
  rw [List.getD_eq_getElem?_getD, List.getElem?_append_right (Nat.le_refl _)]
  simp
 rw [e]
 congr 1
 show [rP (l ++ [q]) l.length 0, rP (l ++ [q]) l.length 1, rP (l ++ [q]) l.length 2] = _
 unfold rP
 rw [e2]
 rfl
theorem ex_eq (zs : List Int) : at0 (exR zs) = ex9 (at0 zs) := funext fun k => by
 rcases Nat.lt_or_ge k zs.length with h | h
 · exact exR_at h
 · unfold at0 ex9
   rw [List.getD_eq_getElem?_getD, List.getElem?_eq_none (by unfold exR; simpa using h)]
   simp only [List.getD_eq_getElem?_getD]
   rw [List.getElem?_eq_none h]
   rfl
theorem exR_len (zs : List Int) : (exR zs).length = zs.length := by unfold exR; simp
def bsX (W H : Int) (zs : List Int) : Sht := ⟨W, H, ⟨0, 0⟩, exR zs⟩
def BestOk (W H : Int) (zs : List Int) (P : Pln) (f : Frc) (er : Int) : Prop :=
 (okSh (bsX W H zs) = true ∧ er = 0 ∧ 0 < P.d ∧ InP P ∧ f = ds9 (fl9 (gridL W.toNat zs.length) (ex9 (at0 zs)) true) ∧ near9 P (gridL W.toNat zs.length) (at0 zs) f = true) ∨
 (okSh (bsX W H zs) = false ∧ er = 2 ∧ P = ⟨0, 0, 0, 0⟩ ∧ f = ⟨0, 0⟩)
structure BS (w : World) (W H : Nat) (vall : Value) (b6 b8 bx : Nat) (zs : List Int) (l : List Pt) (v : Value) (V : World) : Prop where
 own : V.ownsRow w.heap.size 96 3 v l.length (flat 3 (rP l) l.length)
 all : V.ownsRow w.heap.size 96 3 vall zs.length (flat 3 (gP W) zs.length)
 ap : ∀ b, v.ownBlock = some b → vall.ownBlock ≠ some b ∧ b ≠ b6 ∧ b ≠ b8 ∧ b ≠ bx
 r6 : V.heap[b6]? = some (.cells #[I 0, I 0, I 0, I 0, I 0, I 0] 49 (0, 0))
 r8 : V.heap[b8]? = some (.cells #[I (W : Int), I (H : Int), I 0, I 0, .slice (some ⟨bx, 0, none⟩) zs.length zs.length] 91 (0, 0))
 rx : V.heap[bx]? = some (.cells (exA zs zs.length zs.length) 24 (0, 0))
 bw : Below w.heap.size w V
 bst : Bst W H l
theorem BS.below {w V U : World} {W H : Nat} {vall v : Value} {b6 b8 bx : Nat} {zs : List Int} {l : List Pt} (h : BS w W H vall b6 b8 bx zs l v V) (hb : Below V.heap.size V U) : BS w W H vall b6 b8 bx zs l v U :=
 ⟨own_below h.own hb, own_below h.all hb, h.ap, (hb.block _ (lt_of_row h.r6)).trans h.r6, (hb.block _ (lt_of_row h.r8)).trans h.r8, (hb.block _ (lt_of_row h.rx)).trans h.rx, h.bw.trans (hb.mono h.bw.size), h.bst⟩
theorem row_grown {X Y : World} {row : Option Nat} {b : Nat} {o : Obj} (hg : X.grownBy Y row) (h : X.heap[b]? = some o) (hn : row ≠ some b) : Y.heap[b]? = some o := (hg.block b (lt_of_row h) (fun e => hn e.symm)).trans h
theorem own_block_lt {w : World} {base n sz : Nat} {e : TypeId} {v : Value} {xs : List Value} (h : w.ownsRow base e sz v n xs) : ∀ b, v.ownBlock = some b → b < w.heap.size := fun b hb => (h.lt b hb).2
theorem BS.next {w X Y : World} {W H : Nat} {vall v v' : Value} {b6 b8 bx : Nat} {zs : List Int} {l : List Pt} {q : Pt} (h : BS w W H vall b6 b8 bx zs l v X) (hq : q ∈ gridL W (W * H)) (hn : q ∉ l)
 (ho : Y.ownsRow w.heap.size 96 3 v' (l.length + 1) (flat 3 (rP l) l.length ++ [I (q.at_ : Int), I q.x, I q.y])) (hg : X.grownBy Y v.ownBlock) (hb : v'.ownBlock = v.ownBlock ∨ v'.ownBlock = some X.heap.size) : BS w W H vall b6 b8 bx zs (l ++ [q]) v' Y := by
 have e : (l ++ [q]).length = l.length + 1 := by simp
 have hne : ∀ b, v.ownBlock = some b → vall.ownBlock ≠ some b ∧ b ≠ b6 ∧ b ≠ b8 ∧ b ≠ bx := h.ap
 refine ⟨by rw [e, rP_snoc]; exact ho, own_otherF h.all hg (fun b hb he => (hne b he).1 hb), fun b hb2 => ?_, row_grown hg h.r6 (fun he => (hne _ he).2.1 rfl), row_grown hg h.r8 (fun he => (hne _ he).2.2.1 rfl), row_grown hg h.rx (fun he => (hne _ he).2.2.2 rfl), h.bw.grown hg h.bw.size (fun k e => (h.own.lt k e).1), h.bst.next hq hn⟩
 rcases hb with hb | hb
 · exact hne b (hb.symm.trans hb2)
 · rw [hb] at hb2
   injection hb2 with hb2
   have l6 := lt_of_row h.r6
   have l8 := lt_of_row h.r8
   have lx := lt_of_row h.rx
   refine ⟨fun he => ?_, by omega, by omega, by omega⟩
   have := own_block_lt h.all b he
   omega
def lenV : Value → Nat
 | .slice _ n _ => n
 | _ => 0
theorem own_four {w : World} {base b : Nat} {e : TypeId} {p0 p1 p2 p3 : Pt} (h : w.heap[b]? = some (.cells #[I (p0.at_ : Int), I p0.x, I p0.y, I (p1.at_ : Int), I p1.x, I p1.y, I (p2.at_ : Int), I p2.x, I p2.y, I (p3.at_ : Int), I p3.x, I p3.y] e (0, 0))) (hb : base ≤ b) : w.ownsRow base e 3 (.slice (some ⟨b, 0, none⟩) 4 4) 4 (flat 3 (rP [p0, p1, p2, p3]) 4) := by
 refine ⟨flat_len _ _ _, .inr ⟨b, 4, _, rfl, hb, h, Nat.le_refl _, by unfold maxLen; omega, rfl, ?_⟩⟩
 rfl
theorem own_less {w : World} {b b' n sz : Nat} {e : TypeId} {v : Value} {xs : List Value} (h : w.ownsRow b e sz v n xs) (hb : b' ≤ b) : w.ownsRow b' e sz v n xs := by
 refine ⟨h.1, ?_⟩
 rcases h.2 with h1 | ⟨g, cap, cur, h1, h2, h3⟩
 · exact .inl h1
 · exact .inr ⟨g, cap, cur, h1, Nat.le_trans hb h2, h3⟩
theorem InZ_ex {zs : List Int} (h : InH zs) : InZ (exR zs) := fun j hj => by
 rw [exR_len] at hj
 rw [exR_at hj]
 exact ⟨h j hj, h j hj⟩
theorem run_dist (a b x y : Value) (w : World) : (Instr.field 106 (.agg #[a, b, x, y]) 0).run Tryz.prog w = .ok (.agg #[a, b]) w := by kernel_rfl
theorem own_lenV {w : World} {b n sz : Nat} {e : TypeId} {v : Value} {xs : List Value} (h : w.ownsRow b e sz v n xs) : lenV v = n := by
 rcases h.2 with ⟨rfl, rfl⟩ | ⟨g, cap, cur, rfl, _⟩
 · rfl
 · rfl
theorem tch_ok {zs : List Int} {d : Frc} {l : List Pt} {P : Pln} (hl : Grd l) (hi : ∀ q ∈ l, InG q) (hn : ∀ q ∈ l, q.at_ < zs.length) (hz : InH zs) (hd : InD d) (e : d = ds9 (fl9 l (ex9 (at0 zs)) true)) (h : TchR l (at0 zs) d P) : 0 < P.d ∧ near9 P l (at0 zs) d = true ∧ InP P := by
 have hf : Fs (at0 zs) d.n d.d l := by
  have := (min_max hl (fl_lub l (ex9 (at0 zs)) true) (N := d.n) (D := d.d) (by have := hd.2; omega)).1 (by rw [← e]; exact Int.le_refl _)
  exact this
 obtain ⟨h1, h2, i, j, k, s, h3, h4, h5, h6, _, rfl⟩ := tch_found hl hd.2.1 hf h
 have at_ok : ∀ i, i < l.length → -1000000 ≤ at0 zs (pt9 l i).at_ ∧ at0 zs (pt9 l i).at_ ≤ 1000000 := fun i hi => hz _ (hn _ (pt9_mem hi))
 exact ⟨h1, h2, thr_in (pt9_in hi h5) (pt9_in hi (by omega)) (pt9_in hi (by omega)) (atH_in hd (at_ok i h5) (sg9_pm _ _)) (atH_in hd (at_ok j (by omega)) (sg9_pm _ _)) (atH_in hd (at_ok k (by omega)) (sg9_pm _ _)) hd.2⟩
set_option maxRecDepth 100000 in
set_option maxHeartbeats 8000000 in
theorem best_any (WI HI : Int) (zs : List Int) (A : Option Addr) (c B : Nat) (w : World) (hn : zs.length ≤ 1000) (hB : B ≤ w.heap.size) (hx : Rd w B 1 A zs.length (rI zs)) :
 Calls Tryz.prog 12 #[I WI, I HI, .slice A zs.length c] w fun e w' => (∃ P f er, e = .returned (.tuple #[.agg #[I P.a, I P.b, I P.c, I P.d, I f.n, I f.d], I er]) ∧ BestOk WI HI zs P f er) ∧ Below w.heap.size w w' := by
 have HRD : Hid (∀ V, Below w.heap.size w V → Rd V B 1 A zs.length (rI zs) ∧ B ≤ V.heap.size) := fun V hV => ⟨hx.below (hV.mono hB), Nat.le_trans hB hV.size⟩
 have HN := Lib.hid hn
 clear hx hB hn
 obtain ⟨W, hW⟩ : ∃ W, W = (w.alloc (.cells #[I 0, I 0, I 0, I 0, I 0, I 0] 49)) := ⟨_, rfl⟩
 have rowW0 : W.heap[w.heap.size]? = some (.cells #[I 0, I 0, I 0, I 0, I 0, I 0] 49 (0, 0)) := by rw [hW]; exact heap_last _ _ _ rfl
 have yW00 := ovr_cell (W := W) (b := w.heap.size) (o := 0) (v := I 0) (by rw [cell_of_row _ _ _ _ _ _ rowW0]; rfl)
 have yW01 := ovr_cell (W := W) (b := w.heap.size) (o := 1) (v := I 0) (by rw [cell_of_row _ _ _ _ _ _ rowW0]; rfl)
 have yW02 := ovr_cell (W := W) (b := w.heap.size) (o := 2) (v := I 0) (by rw [cell_of_row _ _ _ _ _ _ rowW0]; rfl)
 have yW03 := ovr_cell (W := W) (b := w.heap.size) (o := 3) (v := I 0) (by rw [cell_of_row _ _ _ _ _ _ rowW0]; rfl)
 have yW04 := ovr_cell (W := W) (b := w.heap.size) (o := 4) (v := I 0) (by rw [cell_of_row _ _ _ _ _ _ rowW0]; rfl)
 have yW05 := ovr_cell (W := W) (b := w.heap.size) (o := 5) (v := I 0) (by rw [cell_of_row _ _ _ _ _ _ rowW0]; rfl)
 have RrowW0 := Lib.hid (ovr_row rowW0)
 clear rowW0
 have HUW : Hid (∀ u, Below w.heap.size w (ovr W u)) := U1 hW
 have HW := Lib.hid hW
 clear hW
 go_enter Tryz.func12, Tryz.ntmps12
 go_upto_region 1 with (fail)
 rw [← HW.out]
 obtain ⟨u0, hu0⟩ := ovr_self W
 rw [hu0]
 clear hu0
 go_wp2_with fail
 refine (exact_any zs A c B _ HN.out (HRD.out _ (HUW.out u0)).2 (HRD.out _ (HUW.out u0)).1).mono ?_
 rintro e w1 ⟨bx, rfl, hbx, rx, hb1⟩
 have r6 : w1.heap[w.heap.size]? = some (.cells #[I 0, I 0, I 0, I 0, I 0, I 0] 49 (0, 0)) := (hb1.block _ (lt_of_row (RrowW0.out u0))).trans (RrowW0.out u0)
 have HR1 := Lib.hid (And.intro r6 (And.intro rx (And.intro ((HUW.out u0).trans (hb1.mono (HUW.out u0).size)) (show w.heap.size < bx from Nat.lt_of_lt_of_le (lt_of_row (RrowW0.out u0)) hbx))))
 clear r6 rx hb1 hbx yW00 yW01 yW02 yW03 yW04 yW05
 go_upto_region 2 with fail
 obtain ⟨q8, hq8⟩ : ∃ q, q = w1.heap.size := ⟨_, rfl⟩
 obtain ⟨V1, hV1⟩ : ∃ V, V = w1.alloc (.cells #[I WI, I HI, I 0, I 0, .slice (some ⟨bx, 0, none⟩) zs.length zs.length] 91) := ⟨_, rfl⟩
 have r8 : V1.heap[q8]? = some (.cells #[I WI, I HI, I 0, I 0, .slice (some ⟨bx, 0, none⟩) zs.length zs.length] 91 (0, 0)) := by rw [hV1]; exact heap_last _ _ _ hq8
 have hb : Below w1.heap.size w1 V1 := by rw [hV1]; exact (Below.refl _ _).alloc (Nat.le_refl _) _
 have HR2 := Lib.hid (And.intro ((hb.block _ (lt_of_row HR1.out.1)).trans HR1.out.1) (And.intro ((hb.block _ (lt_of_row HR1.out.2.1)).trans HR1.out.2.1) (And.intro r8 (HR1.out.2.2.1.trans (hb.mono HR1.out.2.2.1.size)))))
 have HQ8 : Hid (bx < q8) := by show _ < _; rw [hq8]; exact lt_of_row HR1.out.2.1
 have y0 := cell_of_row _ _ 0 _ _ _ r8
 have y1 := cell_of_row _ _ 1 _ _ _ r8
 have y2 := cell_of_row _ _ 2 _ _ _ r8
 have y3 := cell_of_row _ _ 3 _ _ _ r8
 have y4 := cell_of_row _ _ 4 _ _ _ r8
 change _ = some (I WI) at y0
 change _ = some (I HI) at y1
 change _ = some (I 0) at y2
 change _ = some (I 0) at y3
 change _ = some (Value.slice (some ⟨bx, 0, none⟩) zs.length zs.length) at y4
 rw [← hq8, ← hV1]
 clear hV1 hq8 r8 hb
 have CK : Hid (Calls Tryz.prog 34 #[.agg #[I WI, I HI, I 0, I 0, .slice (some ⟨bx, 0, none⟩) zs.length zs.length]] V1 fun e w' => e = .returned (I (er9 (okSh (bsX WI HI zs)))) ∧ Below V1.heap.size V1 w') := by
  have := checkSheet_any (bsX WI HI zs) (some ⟨bx, 0, none⟩) zs.length V1 V1.heap.size (Nat.le_refl _) (by show Rd _ _ _ _ (exR zs).length _; rw [exR_len]; exact exA_rd HR2.out.2.1)
  simp only [shA, bsX, exR_len] at this
  exact this
 go_wp2_with fail
 refine CK.out.mono ?_
 rintro e w2 ⟨rfl, hb2⟩
 have HR3 := Lib.hid (And.intro ((hb2.block _ (lt_of_row HR2.out.1)).trans HR2.out.1) (And.intro ((hb2.block _ (lt_of_row HR2.out.2.1)).trans HR2.out.2.1) (And.intro ((hb2.block _ (lt_of_row HR2.out.2.2.1)).trans HR2.out.2.2.1) (HR2.out.2.2.2.trans (hb2.mono HR2.out.2.2.2.size)))))
 clear hb2 y0 y1 y2 y3 y4 HR1 HR2 CK
 rcases ho : okSh (bsX WI HI zs) with _ | _
 · have HO := Lib.hid ho
   clear ho
   go_wp2_with (with_reducible show wpList _ _ _ _ _ _; refine wpList_store_row rfl 49 _ _ rfl w.heap.size rfl _ _ HR3.out.1 #[I 0, I 0, I 0, I 0, I 0, I 0] rfl (by simp [Value.oneCell']) rfl (by kernel_rfl) ?_)
   refine bodyPost_ret (results_cell_tmp rfl _ _ (w.heap.size) 49 _ (0, 0) _ rfl (setRow_same (HR3.out.1)) Tryz.underlying49 rfl (by kernel_rfl)) rfl ?_
   exact ⟨⟨⟨0, 0, 0, 0⟩, ⟨0, 0⟩, 2, rfl, .inr ⟨HO.out, rfl, rfl, rfl⟩⟩, below_setRow HR3.out.2.2.2 (Nat.le_refl _) _⟩
 obtain ⟨WW, HH, eW, eH, bW, bH, eL⟩ := sh_nat ho
 change WI = _ at eW
 change HI = _ at eH
 change (exR zs).length = _ at eL
 rw [exR_len] at eL
 subst eW eH
 have HO := Lib.hid ho
 have HWH := Lib.hid (And.intro bW bH)
 have HEL := Lib.hid eL
 have h36 : WW * HH ≤ 36 := Nat.mul_le_mul bW.2 bH.2
 have H36 := Lib.hid h36
 have hlt := crn_lt bW.1 bH.1
 have HIH : Hid (InH zs) := fun j hj => by
  have := sh_z ho j (by show j < (exR zs).length; rw [exR_len]; exact hj)
  change (_ ≤ (at0 (exR zs) j).lo ∧ (at0 (exR zs) j).lo ≤ _) ∧ _ at this
  rw [exR_at hj] at this
  exact this.1
 rw [← eL] at hlt h36 H36
 have CG : Hid (∀ V, Calls Tryz.prog 35 #[I (WW : Int), I (HH : Int)] V fun e w' => ∃ v, e = .returned v ∧ w'.ownsRow V.heap.size 96 3 v zs.length (flat 3 (gP WW) zs.length) ∧ Below V.heap.size V w') := fun V => by
  have := grid_any WW HH V ⟨by omega, bW.2⟩ bH.2
  rw [← HEL.out] at this
  exact this
 clear ho eL
 go_wp2_with fail
 refine (CG.out w2).mono ?_
 rintro e w3 ⟨vall, rfl, hoA, hb3⟩
 obtain ⟨GA, gc, rfl, hgc1, hgc2, hgr⟩ := Rd.of_own_max hoA
 have hgr := Rd.cong9 hgr gP_rP
 have HR4 := Lib.hid (And.intro ((hb3.block _ (lt_of_row HR3.out.1)).trans HR3.out.1) (And.intro ((hb3.block _ (lt_of_row HR3.out.2.1)).trans HR3.out.2.1) (And.intro ((hb3.block _ (lt_of_row HR3.out.2.2.1)).trans HR3.out.2.2.1) (And.intro (HR3.out.2.2.2.trans (hb3.mono HR3.out.2.2.2.size)) (And.intro hoA (And.intro hgc1 (And.intro hgc2 HR3.out.2.2.2.size)))))))
 have HLT := Lib.hid hlt
 obtain ⟨m1, hm1⟩ : ∃ m, m = WW - 1 := ⟨_, rfl⟩
 obtain ⟨m2, hm2⟩ : ∃ m, m = zs.length - WW := ⟨_, rfl⟩
 obtain ⟨m3, hm3⟩ : ∃ m, m = zs.length - 1 := ⟨_, rfl⟩
 obtain ⟨l0, l1, l2, l3⟩ := hlt
 rw [← hm1] at l1
 rw [← hm2] at l2
 rw [← hm3] at l3
 obtain ⟨gb, go, rfl, _, a0, a1, a2⟩ := rd_pt hgr l0
 obtain ⟨_, _, eg1, _, b0, b1, b2⟩ := rd_pt hgr l1
 obtain ⟨_, _, eg2, _, c0, c1, c2⟩ := rd_pt hgr l2
 obtain ⟨_, _, eg3, _, d0, d1, d2⟩ := rd_pt hgr l3
 injection eg1 with eg1
 injection eg1 with eg1a eg1b
 injection eg2 with eg2
 injection eg2 with eg2a eg2b
 injection eg3 with eg3
 injection eg3 with eg3a eg3b
 subst eg1a eg1b eg2a eg2b eg3a eg3b
 have HGR := Lib.hid hgr
 have HC : Hid (crn WW HH = [pt9 (gridL WW zs.length) 0, pt9 (gridL WW zs.length) m1, pt9 (gridL WW zs.length) m2, pt9 (gridL WW zs.length) m3]) := by
  show _ = _
  rw [gridL_get l0, gridL_get l1, gridL_get l2, gridL_get l3, hm1, hm2, hm3, HEL.out]
  rfl
 change w3.cell? _ = some (I ((pt9 (gridL WW zs.length) 0).at_ : Int)) at a0
 change w3.cell? _ = some (I (pt9 (gridL WW zs.length) 0).x) at a1
 change w3.cell? _ = some (I (pt9 (gridL WW zs.length) 0).y) at a2
 change w3.cell? _ = some (I ((pt9 (gridL WW zs.length) m1).at_ : Int)) at b0
 change w3.cell? _ = some (I (pt9 (gridL WW zs.length) m1).x) at b1
 change w3.cell? _ = some (I (pt9 (gridL WW zs.length) m1).y) at b2
 change w3.cell? _ = some (I ((pt9 (gridL WW zs.length) m2).at_ : Int)) at c0
 change w3.cell? _ = some (I (pt9 (gridL WW zs.length) m2).x) at c1
 change w3.cell? _ = some (I (pt9 (gridL WW zs.length) m2).y) at c2
 change w3.cell? _ = some (I ((pt9 (gridL WW zs.length) m3).at_ : Int)) at d0
 change w3.cell? _ = some (I (pt9 (gridL WW zs.length) m3).x) at d1
 change w3.cell? _ = some (I (pt9 (gridL WW zs.length) m3).y) at d2
 rw [Nat.zero_mul, Nat.add_zero] at a0 a1 a2
 obtain ⟨p0, hp0⟩ : ∃ p, pt9 (gridL WW zs.length) 0 = p := ⟨_, rfl⟩
 obtain ⟨p1, hp1⟩ : ∃ p, pt9 (gridL WW zs.length) m1 = p := ⟨_, rfl⟩
 obtain ⟨p2, hp2⟩ : ∃ p, pt9 (gridL WW zs.length) m2 = p := ⟨_, rfl⟩
 obtain ⟨p3, hp3⟩ : ∃ p, pt9 (gridL WW zs.length) m3 = p := ⟨_, rfl⟩
 rw [hp0] at a0 a1 a2 HC
 rw [hp1] at b0 b1 b2 HC
 rw [hp2] at c0 c1 c2 HC
 rw [hp3] at d0 d1 d2 HC
 have a0 := ovr_cell a0
 have a1 := ovr_cell a1
 have a2 := ovr_cell a2
 have b0 := ovr_cell b0
 have b1 := ovr_cell b1
 have b2 := ovr_cell b2
 have c0 := ovr_cell c0
 have c1 := ovr_cell c1
 have c2 := ovr_cell c2
 have d0 := ovr_cell d0
 have d1 := ovr_cell d1
 have d2 := ovr_cell d2
 have k1 : IntKind.i64.wrap ((WW : Int) - 1) = (m1 : Int) := (IntWalk.i64_in _ (by omega)).trans (by omega)
 have hWn : WW ≤ zs.length := by have := HEL.out; have := Nat.mul_le_mul_left WW bH.1; omega
 have k2 : IntKind.i64.wrap ((zs.length : Int) - (WW : Int)) = (m2 : Int) := (IntWalk.i64_in _ (by omega)).trans (by omega)
 have k3 : IntKind.i64.wrap ((zs.length : Int) - 1) = (m3 : Int) := (IntWalk.i64_in _ (by omega)).trans (by omega)
 clear hgr hoA hb3 hgc1 hgc2 HR3 hp0 hp1 hp2 hp3 hm1 hm2 hm3 hWn
 go_upto_region 5 with fail
 refine wp_region_seq2 22 (fun j => if j = 21 then some (SlN w3 #[I (p0.at_ : Int), I p0.x, I p0.y, I (p1.at_ : Int), I p1.x, I p1.y, I (p2.at_ : Int), I p2.x, I p2.y, I (p3.at_ : Int), I p3.x, I p3.y] 96 4) else none) (by kernel_rfl) (by kernel_rfl) (by kernel_rfl) (by kernel_rfl) (by kernel_rfl) ?_
 simp only [List.take_succ_cons, List.take_zero, List.drop_succ_cons, List.drop_zero]
 repeat (first | (refine wpG_one rfl rfl rfl ?_; intro K hK; go_big_quiet_op; go_big_quiet_on) | (refine wpG_skip rfl ?_; simp only [Act.put, List.setIfInBounds_toArray, List.set_cons_zero, List.set_cons_succ]))
 refine wpG_make (SlN w3 #[I (p0.at_ : Int), I p0.x, I p0.y, I (p1.at_ : Int), I p1.x, I p1.y, I (p2.at_ : Int), I p2.x, I p2.y, I (p3.at_ : Int), I p3.x, I p3.y] 96 4) rfl rfl (fun w' hw' hk => ?_) (fun u hu => ?_)
 · go_simp
   exact sln_grow hw'
 obtain ⟨_, _, SB, rfl, _, _⟩ := hu
 simp only [Act.put, List.setIfInBounds_toArray, List.set_cons_zero, List.set_cons_succ]
 repeat (first | (refine wpG_one rfl rfl rfl ?_; intro K hK; go_big_quiet_op; go_big_quiet_on) | (refine wpG_skip rfl ?_; simp only [Act.put, List.setIfInBounds_toArray, List.set_cons_zero, List.set_cons_succ]))
 refine wpG_nil (fun w5 hw5 hG => ?_)
 have hBX := hG.2.now.at
 clear hG a0 a1 a2 b0 b1 b2 c0 c1 c2 d0 d1 d2 k1 k2 k3
 refine wpTailIn_cons Wd.wide (by intro c h; cases h) ?_
 unfold Oper.wp
 go_simp
 refine wpTailIn_nil ?_
 (try simp only [Act.put])
 have HBS : Hid (BS w WW HH (.slice (some ⟨gb, go, none⟩) zs.length gc) w.heap.size q8 bx zs (crn WW HH) (.slice (some ⟨SB, 0, none⟩) 4 4) w5) := by
  obtain ⟨r6, rx, r8, hbw, hoA, _, _, hsz⟩ := HR4.out
  have hb5 : Below w3.heap.size w3 w5 := hw5.le
  have hw3 : w.heap.size ≤ w3.heap.size := hbw.size
  have hge : w3.heap.size ≤ SB := hBX.2
  have hga := own_block_lt hoA gb rfl
  have e6 := lt_of_row r6
  have e8 := lt_of_row r8
  have ex := lt_of_row rx
  refine ⟨?_, own_below (own_less hoA hsz) hb5, fun b hb => ?_, (hb5.block _ e6).trans r6, (hb5.block _ e8).trans r8, (hb5.block _ ex).trans rx, hbw.trans (hb5.mono hw3), Bst.base HWH.out.1.1 HWH.out.2.1⟩
  · rw [HC.out]
    exact own_four hBX.1 (Nat.le_trans hw3 hge)
  · obtain rfl : SB = b := by injection hb
    refine ⟨fun h => ?_, by omega, by omega, by omega⟩
    have : gb = SB := by injection h
    omega
 clear hBX hw5 HR4 HC
 go_wp2_with fail
 go_loopw [10] (fun v wr => ∃ l, BS w WW HH (.slice (some ⟨gb, go, none⟩) zs.length gc) w.heap.size q8 bx zs l v wr) (fun v _ => zs.length - lenV v)
 case atStart => exact ⟨_, HBS.out⟩
 case round =>
  obtain ⟨l, hbs⟩ := hrel
  rename World => V
  have HS := Lib.hid hbs
  clear hbs HBS
  obtain ⟨A10, c10, rfl, hc1, hc2, hr10⟩ := Rd.of_own_max HS.out.own
  have h36l : l.length ≤ zs.length := by have := HS.out.bst.len; rw [HEL.out]; exact this
  have HLE := Lib.hid (And.intro (And.intro hc1 hc2) h36l)
  clear hc1 hc2 h36l
  have r8 := HS.out.r8
  have y4 := cell_of_row _ _ 4 _ _ _ r8
  change _ = some (Value.slice (some ⟨bx, 0, none⟩) zs.length zs.length) at y4
  clear r8
  have HLI : Hid ((∀ q ∈ l, InG q) ∧ ∀ q ∈ l, q.at_ < zs.length) := by
   refine ⟨fun q hq => grid_in ⟨by have := HWH.out.1; omega, HWH.out.1.2⟩ HWH.out.2.2 q (HS.out.bst.sub q hq), fun q hq => ?_⟩
   rw [HEL.out]
   exact grid_at q (HS.out.bst.sub q hq)
  obtain ⟨pl, hpl⟩ : ∃ p, fl9 l (ex9 (at0 zs)) false = p := ⟨_, rfl⟩
  obtain ⟨pg, hpg⟩ : ∃ p, fl9 l (ex9 (at0 zs)) true = p := ⟨_, rfl⟩
  have CF : Hid (Calls Tryz.prog 36 #[.slice A10 l.length c10, .slice (some ⟨bx, 0, none⟩) zs.length zs.length] V fun e w' => e = .returned (.tuple #[.agg (pfA pl), .agg (pfA pg)]) ∧ Below V.heap.size V w') := by
   have := flatness_any l A10 c10 (some ⟨bx, 0, none⟩) zs.length (exR zs) V.heap.size V HLI.out.1 (by have := HLE.out.2; omega) HLE.out.1 (by rw [exR_len]; exact HLI.out.2) (InZ_ex HIH.out) (Nat.le_refl _) hr10 (by rw [exR_len]; exact exA_rd HS.out.rx)
   rw [exR_len, ex_eq, hpl, hpg] at this
   exact this
  have HPG : Hid ((pg.s = true → 0 < pg.b.sz ∧ fok ⟨pg.v, pg.b.sz⟩ = true) ∧ InD (ds9 pg) ∧ pg = fl9 l (ex9 (at0 zs)) true) := by
   have h1 : InF pg zs.length := by
        have := fl9_in (g := true) HLI.out.1 (zs := exR zs) (by rw [exR_len]; exact HLI.out.2) (InZ_ex HIH.out)
        rw [ex_eq, hpg, exR_len] at this
        exact this
   have h2 := fl9_fok (g := true) HLI.out.1 (zs := exR zs) (by rw [exR_len]; exact HLI.out.2) (InZ_ex HIH.out)
   rw [ex_eq, hpg] at h2
   refine ⟨h2, ds_in h1 (fun hs => ?_), hpg.symm⟩
   rw [← hpg]
   exact fl9_some (by rw [hpg]; exact hs)
  clear hr10 hpl hpg
  go_wp2_with fail
  refine CF.out.mono ?_
  rintro e V1 ⟨rfl, hb1⟩
  have HS1 := Lib.hid (HS.out.below hb1)
  clear hb1 CF y4 HS
  obtain ⟨qg, hqg⟩ : ∃ q, q = V1.heap.size + 1 := ⟨_, rfl⟩
  have hA1 : ((V1.alloc (.cells #[I 0, I 0, I 0, I 0, I 0, I 0, I 0, I 0, I 0, I 0, I 0, I 0, I 0, I 0, I 0, I 0, I 0, I 0, .bool false] 102)).alloc (.cells #[I 0, I 0, I 0, I 0, I 0, I 0, I 0, I 0, I 0, I 0, I 0, I 0, I 0, I 0, I 0, I 0, I 0, I 0, .bool false] 102)).heap[V1.heap.size]? = some (.cells #[I 0, I 0, I 0, I 0, I 0, I 0, I 0, I 0, I 0, I 0, I 0, I 0, I 0, I 0, I 0, I 0, I 0, I 0, .bool false] 102 (0, 0)) := heap_before (heap_last _ _ _ rfl)
  have hA2 : ((V1.alloc (.cells #[I 0, I 0, I 0, I 0, I 0, I 0, I 0, I 0, I 0, I 0, I 0, I 0, I 0, I 0, I 0, I 0, I 0, I 0, .bool false] 102)).alloc (.cells #[I 0, I 0, I 0, I 0, I 0, I 0, I 0, I 0, I 0, I 0, I 0, I 0, I 0, I 0, I 0, I 0, I 0, I 0, .bool false] 102)).heap[V1.heap.size + 1]? = some (.cells #[I 0, I 0, I 0, I 0, I 0, I 0, I 0, I 0, I 0, I 0, I 0, I 0, I 0, I 0, I 0, I 0, I 0, I 0, .bool false] 102 (0, 0)) := heap_last _ _ _ (by simp)
  have HA1 := Lib.hid (And.intro hA1 hA2)
  have HBA : Hid (Below V1.heap.size V1 ((V1.alloc (.cells #[I 0, I 0, I 0, I 0, I 0, I 0, I 0, I 0, I 0, I 0, I 0, I 0, I 0, I 0, I 0, I 0, I 0, I 0, .bool false] 102)).alloc (.cells #[I 0, I 0, I 0, I 0, I 0, I 0, I 0, I 0, I 0, I 0, I 0, I 0, I 0, I 0, I 0, I 0, I 0, I 0, .bool false] 102))) := ((Below.refl _ _).alloc (Nat.le_refl _) _).alloc (by simp) _
  clear hA1 hA2
  go_upto_region 7 with (first | (with_reducible show wpList _ _ _ _ _ _; refine wpList_store_row rfl 102 _ _ rfl V1.heap.size rfl _ _ HA1.out.1 (pfA pl) rfl (by simp [Value.oneCell']) rfl (by kernel_rfl) ?_) | (with_reducible show wpList _ _ _ _ _ _; refine wpList_store_row rfl 102 _ _ rfl (V1.heap.size + 1) rfl _ _ ((Go.Proofs.YtliolnfcgaflcaaGreat.setRow_other (by omega)).trans HA1.out.2) (pfA pg) rfl (by simp [Value.oneCell']) rfl (by kernel_rfl) ?_))
  refine name_w fun Y hY => ?_
  have hbY : Below V1.heap.size V1 Y := by rw [hY]; exact below_setRow (below_setRow HBA.out (Nat.le_refl _) _) (by omega) _
  have rg : Y.heap[qg]? = some (.cells (pfA pg) 102 (0, 0)) := by rw [hY, hqg]; exact setRow_same ((Go.Proofs.YtliolnfcgaflcaaGreat.setRow_other (by omega)).trans HA1.out.2)
  have HS2 := Lib.hid (HS1.out.below hbY)
  have HRG := Lib.hid rg
  rw [← hqg]
  clear hqg hY hbY rg HS1 HA1 HBA
  go_wp2_with fail
  refine (flat_any pg qg Y HRG.out HPG.out.1).mono ?_
  rintro e V2 hfl
  obtain ⟨⟨S, n1, T, m1', rfl, _⟩, hb2⟩ := hfl
  have HS3 := Lib.hid (HS2.out.below hb2)
  obtain ⟨d, hd⟩ : ∃ d, ds9 pg = d := ⟨_, rfl⟩
  have HPG2 : Hid (InD d ∧ d = ds9 (fl9 l (ex9 (at0 zs)) true)) := by
   show _ ∧ _
   rw [← hd, ← HPG.out.2.2]
   exact ⟨HPG.out.2.1, rfl⟩
  rw [hd]
  clear hb2 hd HRG HS2 HPG
  have hrd := fun w => run_dist (I d.n) (I d.d) (.slice S (flS pg).1.length n1) (.slice T (flS pg).2.length m1') w
  go_upto_region 8 with fail
  clear hrd
  obtain ⟨qd, hqd⟩ : ∃ q, q = V2.heap.size := ⟨_, rfl⟩
  obtain ⟨Y2, hY⟩ : ∃ Y, Y = V2.alloc (.cells #[I d.n, I d.d] 47) := ⟨_, rfl⟩
  have hbY : Below V2.heap.size V2 Y2 := by rw [hY]; exact (Below.refl _ _).alloc (Nat.le_refl _) _
  have rd2 : Y2.heap[qd]? = some (.cells #[I d.n, I d.d] 47 (0, 0)) := by rw [hY]; exact heap_last _ _ _ hqd
  have HS4 := Lib.hid (HS3.out.below hbY)
  have y0 := cell_of_row _ _ 0 _ _ _ rd2
  have y1 := cell_of_row _ _ 1 _ _ _ rd2
  change _ = some (I d.n) at y0
  change _ = some (I d.d) at y1
  have HRD2 := Lib.hid rd2
  rw [← hqd, ← hY]
  clear hqd hY hbY rd2 HS3
  have hr10 := Rd.of_own_max HS4.out.own
  obtain ⟨A11, c11, e11, _, _, hr10⟩ := hr10
  injection e11 with e11a e11b e11c
  subst e11a e11c
  have HRL : Hid (∀ X, Below Y2.heap.size Y2 X → Rd X Y2.heap.size 3 A10 l.length (rP l)) := fun X hX => hr10.below hX
  clear hr10
  go_wp2_with fail
  refine (touching_any l zs d A10 c10 A c Y2.heap.size Y2 HLI.out.1 HLI.out.2 HIH.out HPG2.out.1 (by have := HLE.out.2; omega) HLE.out.1 (Nat.le_refl _) (HRL.out _ (Below.refl _ _)) ((HRD.out _ HS4.out.bw).1.more (HRD.out _ HS4.out.bw).2)).mono ?_
  rintro e V3 ⟨⟨P, rfl, hP⟩, hb3⟩
  have HPP := Lib.hid (tch_ok HS4.out.bst.grd HLI.out.1 HLI.out.2 HIH.out HPG2.out.1 HPG2.out.2 hP)
  have HS5 := Lib.hid (HS4.out.below hb3)
  have HRD3 : Hid (V3.heap[qd]? = some (.cells #[I d.n, I d.d] 47 (0, 0))) := (hb3.block _ (lt_of_row HRD2.out)).trans HRD2.out
  clear hb3 y0 y1 HRD2 HRL hP HS4
  go_upto_region 9 with fail
  obtain ⟨qp, hqp⟩ : ∃ q, q = V3.heap.size := ⟨_, rfl⟩
  obtain ⟨Y3, hY⟩ : ∃ Y, Y = V3.alloc (.cells (plA P) 109) := ⟨_, rfl⟩
  have hbY : Below V3.heap.size V3 Y3 := by rw [hY]; exact (Below.refl _ _).alloc (Nat.le_refl _) _
  have rp := (show Y3.heap[qp]? = some (.cells (plA P) 109 (0, 0)) by rw [hY]; exact heap_last _ _ _ hqp)
  have rd3 := (hbY.block _ (lt_of_row HRD3.out)).trans HRD3.out
  have HS6 := Lib.hid (HS5.out.below hbY)
  have HRR := Lib.hid (And.intro rp rd3)
  rw [← hqp, ← hY]
  have y0 := cell_of_row _ _ 0 _ _ _ rd3
  have y1 := cell_of_row _ _ 1 _ _ _ rd3
  change _ = some (I d.n) at y0
  change _ = some (I d.d) at y1
  have x0 := cell_of_row _ _ 0 _ _ _ rp
  have x1 := cell_of_row _ _ 1 _ _ _ rp
  have x2 := cell_of_row _ _ 2 _ _ _ rp
  have x3 := cell_of_row _ _ 3 _ _ _ rp
  change _ = some (I P.a) at x0
  change _ = some (I P.b) at x1
  change _ = some (I P.c) at x2
  change _ = some (I P.d) at x3
  clear hqp hY hbY rp rd3 HRD3 HS5
  have hall : ∀ X, Below Y3.heap.size Y3 X → Rd X Y3.heap.size 3 (some ⟨gb, go, none⟩) zs.length (rP (gridL WW zs.length)) := fun X hX => by
   obtain ⟨A', c', e, _, _, hr⟩ := Rd.of_own_max HS6.out.all
   injection e with e1 e2 e3
   subst e1 e3
   exact (Rd.cong9 hr gP_rP).below hX
  have HAL := Lib.hid hall
  have HG36 : Hid ((gridL WW zs.length).length = zs.length ∧ (∀ q ∈ gridL WW zs.length, InG q) ∧ ∀ q ∈ gridL WW zs.length, q.at_ < zs.length) := by
   refine ⟨gridL_len _ _, ?_, grid_at⟩
   rw [HEL.out]
   exact grid_in ⟨by have := HWH.out.1; omega, HWH.out.1.2⟩ HWH.out.2.2
  have CN : Hid (Calls Tryz.prog 39 #[.agg (plA P), .slice (some ⟨gb, go, none⟩) zs.length gc, .slice A zs.length c, d.val] Y3 fun e w' => e = .returned (.bool (near9 P (gridL WW zs.length) (at0 zs) d)) ∧ Below Y3.heap.size Y3 w') := by
   have := near_any P (gridL WW zs.length) zs d (some ⟨gb, go, none⟩) gc A c Y3.heap.size Y3 HPP.out.2.2 HG36.out.2.1 HG36.out.2.2 HIH.out HPG2.out.1 (by rw [HG36.out.1]; exact H36.out) (Nat.le_refl _) (by rw [HG36.out.1]; exact HAL.out _ (Below.refl _ _)) ((HRD.out _ HS6.out.bw).1.more (HRD.out _ HS6.out.bw).2)
   rw [HG36.out.1] at this
   exact this
  clear hall
  go_wp2_with fail
  refine CN.out.mono ?_
  rintro e V4 ⟨rfl, hb4⟩
  have HS7 := Lib.hid (HS6.out.below hb4)
  have rp := (hb4.block _ (lt_of_row HRR.out.1)).trans HRR.out.1
  have rd4 := (hb4.block _ (lt_of_row HRR.out.2)).trans HRR.out.2
  have HRQ := Lib.hid (And.intro rp rd4)
  clear y0 y1 x0 x1 x2 x3 CN
  rcases hnr : near9 P (gridL WW zs.length) (at0 zs) d with _ | _
  case true =>
   have HNR := Lib.hid hnr
   have y0 := cell_of_row _ _ 0 _ _ _ rd4
   have y1 := cell_of_row _ _ 1 _ _ _ rd4
   change _ = some (I d.n) at y0
   change _ = some (I d.d) at y1
   have x0 := cell_of_row _ _ 0 _ _ _ rp
   have x1 := cell_of_row _ _ 1 _ _ _ rp
   have x2 := cell_of_row _ _ 2 _ _ _ rp
   have x3 := cell_of_row _ _ 3 _ _ _ rp
   change _ = some (I P.a) at x0
   change _ = some (I P.b) at x1
   change _ = some (I P.c) at x2
   change _ = some (I P.d) at x3
   have HR6 := Lib.hid HS7.out.r6
   clear rp rd4 hb4 hnr HRR HRQ HS6
   go_wp2_with (with_reducible show wpList _ _ _ _ _ _; refine wpList_store_row rfl 49 _ _ rfl w.heap.size rfl _ _ HR6.out #[I P.a, I P.b, I P.c, I P.d, I d.n, I d.d] rfl (by simp [Value.oneCell']) rfl (by kernel_rfl) ?_)
   refine bodyPost_ret (results_cell_tmp rfl _ _ (w.heap.size) 49 _ (0, 0) _ rfl (setRow_same (HR6.out)) Tryz.underlying49 rfl (by kernel_rfl)) rfl ?_
   refine ⟨⟨P, d, 0, rfl, .inl ⟨HO.out, rfl, HPP.out.1, HPP.out.2.2, ?_, HNR.out⟩⟩, below_setRow HS7.out.bw (Nat.le_refl _) _⟩
   show d = ds9 (fl9 (gridL WW zs.length) (ex9 (at0 zs)) true)
   have hg : Grd (gridL WW zs.length) := by rw [HEL.out]; exact grid_grd HWH.out.1.1 HWH.out.2.1
   exact best_all HS7.out.bst.grd hg (by rw [HEL.out]; exact HS7.out.bst.sub) HPG2.out.2 HPP.out.1 HNR.out
  have HNR := Lib.hid hnr
  have hb34 : Below Y3.heap.size Y3 V4 := hb4
  have HB34 := Lib.hid hb34
  clear rp rd4 hb4 hnr HRR HS6 hb34
  go_upto_region 12 with fail
  obtain ⟨qf, hqf⟩ : ∃ q, q = V4.heap.size := ⟨_, rfl⟩
  obtain ⟨V5, hV5⟩ : ∃ Y, Y = V4.alloc (.cells #[I 0, I 0, I 0] 96) := ⟨_, rfl⟩
  have HF0 : Hid (Below V4.heap.size V4 V5 ∧ V5.heap[qf]? = some (.cells (ptA (farK P (at0 zs) (gridL WW zs.length) 0).1) 96 (0, 0))) := by
   show _ ∧ _
   rw [hV5]
   exact ⟨(Below.refl _ _).alloc (Nat.le_refl _) _, heap_last _ _ _ hqf⟩
  have HQF := Lib.hid hqf
  rw [← hqf, ← hV5]
  clear hV5 hqf
  go_wp2_with fail
  go_loopw [85, 16] (fun iv mv wr => ∃ k : Nat, k ≤ zs.length ∧ iv = .int .i64 k ∧ mv = I (farK P (at0 zs) (gridL WW zs.length) k).2 ∧ Below V4.heap.size V4 wr ∧ wr.heap[qf]? = some (.cells (ptA (farK P (at0 zs) (gridL WW zs.length) k).1) 96 (0, 0))) (fun iv _ _ => zs.length - (intOf iv).toNat)
  case atStart => exact ⟨0, Nat.zero_le _, rfl, rfl, HF0.out.1, HF0.out.2⟩
  case round =>
   obtain ⟨k, hk, rfl, rfl, hbU, hrow⟩ := hrel
   rename World => U
   have HU := Lib.hid (And.intro hbU hrow)
   by_cases hlt : k < zs.length
   case neg =>
        obtain rfl : k = zs.length := by omega
        have ki : decide ((zs.length : Int) < (zs.length : Int)) = false := decide_eq_false (by omega)
        clear hk hlt
        obtain ⟨fq, hfq⟩ : ∃ q, (farK P (at0 zs) (gridL WW zs.length) zs.length).1 = q := ⟨_, rfl⟩
        rw [hfq] at HU
        have HFQ : Hid (fq ∈ gridL WW (WW * HH) ∧ fq ∉ l) := by
         have e : farF P (at0 zs) (gridL WW zs.length) = fq := by unfold farF; rw [HG36.out.1]; exact hfq
         refine ⟨?_, ?_⟩
         · rw [← HEL.out, ← e]
           exact far_mem (by rw [HG36.out.1]; exact HLT.out.1)
         · rw [← e]
           exact far_new HPG2.out.1.2.1 HPP.out.2.1 HNR.out
        have HSU := Lib.hid ((HS7.out.below HU.out.1).below (U := U.alloc (.cells (ptA fq) 96)) ((Below.refl _ _).alloc (Nat.le_refl _) _))
        have hcf := HU.out.2
        have v0 := cell_of_row _ _ 0 _ _ _ hcf
        have v1 := cell_of_row _ _ 1 _ _ _ hcf
        have v2 := cell_of_row _ _ 2 _ _ _ hcf
        change _ = some (I (fq.at_ : Int)) at v0
        change _ = some (I fq.x) at v1
        change _ = some (I fq.y) at v2
        obtain ⟨i0, hi0, iz0, iz1, iz2⟩ := info_parts point_info
        have hll : l.length ≤ 36 := by have := HLE.out.2; have := H36.out; omega
        clear hcf hfq
        go_wp2_with (with_reducible show wpList _ _ _ _ _ _; refine wpList_append_own_at _ rfl _ _ 93 rfl w.heap.size 96 i0 _ 3 24 Tryz.underlying93 hi0 iz0 iz1 iz2 rfl (by decide) (.slice A10 l.length c10) l.length (flat 3 (rP l) l.length) rfl HSU.out.own ⟨U.heap.size, 0, none⟩ 1 1 [I (fq.at_ : Int), I fq.x, I fq.y] rfl rfl (cells_row (heap_last _ _ _ rfl)) (by simp [Value.oneCell']) (by unfold maxLen; omega) (by omega) HSU.out.bw.size (fun v' w' a1 a2 a3 a4 => ?_))
        have hbn := HSU.out.next HFQ.out.1 HFQ.out.2 a1 a2 a4
        have h1 := own_lenV a1
        have h2 := hbn.bst.len
        rw [← HEL.out, List.length_append] at h2
        refine ⟨⟨l ++ [fq], hbn⟩, ?_⟩
        rw [h1]
        show zs.length - (l.length + 1) < zs.length - l.length
        simp only [List.length_cons, List.length_nil] at h2
        omega
   have HLT2 := Lib.hid hlt
   have ki : decide ((k : Int) < (zs.length : Int)) = true := decide_eq_true (by omega)
   obtain ⟨b2, o2, hbo, _, e0, e1, e2⟩ := rd_pt (HAL.out U (HB34.out.trans (hbU.mono HB34.out.size))) hlt
   injection hbo with hbo
   injection hbo with hbo1 hbo2
   subst hbo1 hbo2
   change U.cell? _ = some (I ((pt9 (gridL WW zs.length) k).at_ : Int)) at e0
   change U.cell? _ = some (I (pt9 (gridL WW zs.length) k).x) at e1
   change U.cell? _ = some (I (pt9 (gridL WW zs.length) k).y) at e2
   have HPM : Hid (InG (pt9 (gridL WW zs.length) k) ∧ (pt9 (gridL WW zs.length) k).at_ < zs.length) := by
        have hm := pt9_mem (l := gridL WW zs.length) (k := k) (by rw [HG36.out.1]; exact hlt)
        exact ⟨HG36.out.2.1 _ hm, HG36.out.2.2 _ hm⟩
   have HFK : Hid (farK P (at0 zs) (gridL WW zs.length) (k + 1) = farS P (at0 zs) (farK P (at0 zs) (gridL WW zs.length) k) (pt9 (gridL WW zs.length) k)) := rfl
   obtain ⟨q, hq⟩ : ∃ q, pt9 (gridL WW zs.length) k = q := ⟨_, rfl⟩
   rw [hq] at e0 e1 e2 HPM HFK
   obtain ⟨sf, hsf⟩ : ∃ s, farK P (at0 zs) (gridL WW zs.length) k = s := ⟨_, rfl⟩
   rw [hsf] at HFK HU ⊢
   have hk36 : k ≤ 36 := by omega
   have hatl := HPM.out.2
   have k4 : decide (q.at_ < zs.length) = true := decide_eq_true hatl
   clear hk hbU hrow hq hsf
   go_upto_region 15 with fail
   obtain ⟨q18, hq18⟩ : ∃ x, x = U.heap.size := ⟨_, rfl⟩
   obtain ⟨X, hX⟩ : ∃ X, X = U.alloc (.cells (ptA q) 96) := ⟨_, rfl⟩
   have hbX : Below U.heap.size U X := by rw [hX]; exact (Below.refl _ _).alloc (Nat.le_refl _) _
   have r18 : X.heap[q18]? = some (.cells (ptA q) 96 (0, 0)) := by rw [hX]; exact heap_last _ _ _ hq18
   rw [← hq18, ← hX]
   have hbVX : Below V4.heap.size V4 X := HU.out.1.trans (hbX.mono HU.out.1.size)
   have hlt18 : Hid (qf < q18) := by show _ < _; rw [hq18]; exact lt_of_row HU.out.2
   have rpx := (hbVX.block _ (lt_of_row HRQ.out.1)).trans HRQ.out.1
   have rfx := (hbX.block _ (lt_of_row HU.out.2)).trans HU.out.2
   have x0 := cell_row9 rpx (j := 0) (v := I P.a) rfl
   have x1 := cell_row9 rpx (j := 1) (v := I P.b) rfl
   have x2 := cell_row9 rpx (j := 2) (v := I P.c) rfl
   have x3 := cell_row9 rpx (j := 3) (v := I P.d) rfl
   have y0 := cell_row9 r18 (j := 0) (v := I (q.at_ : Int)) rfl
   have y1 := cell_row9 r18 (j := 1) (v := I q.x) rfl
   have y2 := cell_row9 r18 (j := 2) (v := I q.y) rfl
   have hwX : Below w.heap.size w X := HS7.out.bw.trans (hbVX.mono HS7.out.bw.size)
   obtain ⟨bz, oz, hbz, _, f0⟩ := rd_int9 (HRD.out X hwX).1 hatl
   have hzz := HIH.out _ hatl
   have HOF : Hid (ofa P (at0 zs) q = max (P.off q (at0 zs q.at_)) (-(P.off q (at0 zs q.at_)))) := rfl
   obtain ⟨z, hz⟩ : ∃ z, at0 zs q.at_ = z := ⟨_, rfl⟩
   rw [hz] at f0 hzz HOF
   have f0 := ovr_cell f0
   subst hbz
   have CO := Lib.hid fun V => off_any P q z V HPP.out.2.2 HPM.out.1 hzz
   have hob := off_bd HPP.out.2.2 HPM.out.1 hzz
   obtain ⟨f, hf⟩ : ∃ f, P.off q z = f := ⟨_, rfl⟩
   rw [hf] at CO hob HOF
   have k3 : decide ((q.at_ : Int) < (zs.length : Int)) = true := decide_eq_true (by omega)
   have HX3 := Lib.hid (And.intro hbVX (And.intro rfx r18))
   clear hX hq18 hbX r18 hbVX rpx rfx hwX hz hzz hf e0 e1 e2
   refine wp_region_seq2 8 (fun j => if j = 7 then some (fun u _ => u = I f) else none) (by kernel_rfl) (by kernel_rfl) (by kernel_rfl) (by kernel_rfl) (by kernel_rfl) ?_
   simp only [List.take_succ_cons, List.take_zero, List.drop_succ_cons, List.drop_zero]
   repeat (first | (refine wpG_one rfl rfl rfl ?_; intro K hK; go_big_quiet_op; go_big_quiet_on) | (refine wpG_skip rfl ?_; simp only [Act.put, List.setIfInBounds_toArray, List.set_cons_zero, List.set_cons_succ]))
   refine wpG_make (fun u _ => u = I f) rfl rfl (fun w' hw' hk => ?_) (fun u hu => ?_)
   · go_simp
     exact call_grow (CO.out w')
   obtain ⟨_, _, rfl⟩ := hu
   simp only [Act.put, List.setIfInBounds_toArray, List.set_cons_zero, List.set_cons_succ]
   repeat (first | (refine wpG_one rfl rfl rfl ?_; intro K hK; go_big_quiet_op; go_big_quiet_on) | (refine wpG_skip rfl ?_; simp only [Act.put, List.setIfInBounds_toArray, List.set_cons_zero, List.set_cons_succ]))
   refine wpG_nil (fun w5 hw5 hG => ?_)
   refine wpTailIn_cons Wd.wide (by intro c h; cases h) ?_
   unfold Oper.wp
   go_simp
   refine wpTailIn_nil ?_
   (try simp only [Act.put])
   have hb5 : Below X.heap.size X w5 := hw5.le
   have HX5 : Hid (Below V4.heap.size V4 w5 ∧ w5.heap[qf]? = some (.cells (ptA sf.1) 96 (0, 0)) ∧ w5.heap[q18]? = some (.cells (ptA q) 96 (0, 0))) :=
        ⟨HX3.out.1.trans (hb5.mono HX3.out.1.size), (hb5.block _ (lt_of_row HX3.out.2.1)).trans HX3.out.2.1, (hb5.block _ (lt_of_row HX3.out.2.2)).trans HX3.out.2.2⟩
   clear hG hw5 hb5 HX3 x0 x1 x2 x3 y0 y1 y2 f0 CO
   have kf : wrap64 (-f) = -f := by unfold wrap64; omega
   have HLQ : Hid (V4.heap.size ≤ qf) := by show _ ≤ _; rw [HQF.out]; exact Nat.le_refl _
   by_cases hmo : sf.2 < max f (-f)
   · have dm : decide (sf.2 < max f (-f)) = true := decide_eq_true hmo
     have HN2 : Hid (farK P (at0 zs) (gridL WW zs.length) (k + 1) = (q, max f (-f))) := by
      show _ = _
      rw [HFK.out]
      unfold farS
      rw [HOF.out, if_pos hmo]
     obtain ⟨_, hqq, hq8⟩ := HX5.out
     have v0 := cell_of_row _ _ 0 _ _ _ hq8
     have v1 := cell_of_row _ _ 1 _ _ _ hq8
     have v2 := cell_of_row _ _ 2 _ _ _ hq8
     change _ = some (I (q.at_ : Int)) at v0
     change _ = some (I q.x) at v1
     change _ = some (I q.y) at v2
     clear hmo hqq hq8
     go_wp2_with (with_reducible show wpList _ _ _ _ _ _; refine wpList_store_row rfl 96 _ _ rfl qf rfl _ _ HX5.out.2.1 (ptA q) rfl (by simp [Value.oneCell']) rfl (by kernel_rfl) ?_)
     go_roundw
     case rel => exact ⟨k + 1, HLT2.out, by go_num, by rw [HN2.out], below_setRow HX5.out.1 HLQ.out _, by rw [HN2.out]; exact setRow_same HX5.out.2.1⟩
     case measure => have := HLT2.out; simp [intOf]; omega
   · have dm : decide (sf.2 < max f (-f)) = false := decide_eq_false hmo
     have HN2 : Hid (farK P (at0 zs) (gridL WW zs.length) (k + 1) = sf) := by
      show _ = _
      rw [HFK.out]
      unfold farS
      rw [HOF.out, if_neg hmo]
     clear hmo
     go_wp2_with fail
     go_roundw
     case rel => exact ⟨k + 1, HLT2.out, by go_num, by rw [HN2.out], HX5.out.1, by rw [HN2.out]; exact HX5.out.2.1⟩
     case measure => have := HLT2.out; simp [intOf]; omega
end Go.Proofs.YtliolnfcgaflcaaGreat.Un
