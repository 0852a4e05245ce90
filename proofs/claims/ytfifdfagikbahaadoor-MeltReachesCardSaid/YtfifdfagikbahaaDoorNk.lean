/- The contract of Predict of the reference. -/
import Derived.Test.YtfifdfagikbahaaDoorNj
namespace Go.Proofs.YtfifdfagikbahaaDoor
open Go.RowKit
attribute [local go_sem] Oper.semAt_some
theorem wpList_store2 {ops : Array Oper} {rest : List Oper} {o : Oper} {a : Act} {w : World} {Q : Exit → Act → World → Prop} (hg : o.guard = none) (x y : Operand) (ho : o.op = .store 23 x y) (b i : Nat) (hx : a.eval x = .pointer (some ⟨b, i, none⟩)) (u v : Int) (hy : a.eval y = .agg #[I u, I v])
    (cs : Array Value) (t : TypeId) (hr : w.heap[b]? = some (.cells cs t (0, 0))) (hi : i + 1 < cs.size) (h : wpList Tryd.prog ops Q rest (a.put o.dst undef) ((w.setCell ⟨b, i, none⟩ (I u)).setCell ⟨b, i + 1, none⟩ (I v))) : wpList Tryd.prog ops Q (o :: rest) a w :=
  wpList_plain hg fun _ hK => wp_store2 x y ho b i hx u v hy cs t hr hi (hK _ _ h)
theorem wp_app_soc_g {P : Program} {o : Oper} {a : Act} {w : World} {K : Act → World → Prop} {Q : Exit → Act → World → Prop} (s x : Operand) (t : TypeId) (ho : o.op = .call { callee := .builtin .append, args := #[s, x], argTypes := #[t, t] })
    (e : TypeId) (i : TypeInfo) (z : Value) (sz bytes : Nat) (h1 : P.underlying t = some (.slice e)) (h2 : P.info? e = some i) (h3 : i.zero = some z) (h4 : i.size = sz) (h5 : i.bytes = bytes) (h6 : z.cells.size = sz) (h7 : 0 < sz)
    (B n : Nat) (olds : List Value) (v : Value) (hs : a.eval s = v) (hso : SoC e sz B n olds v w) (ad : Addr) (c : Nat) (news : List Value) (hx : a.eval x = .slice (some ad) 1 c) (hnl : news.length = sz)
    (hc : ∀ j u, news[j]? = some u → w.cell? (ad.add j) = some u) (h1c : ∀ u ∈ news, u.oneCell' = true) (hB : B ≤ w.heap.size) (hl : n ≤ 1000000) (hb : bytes ≤ 1000)
    (h : ∀ v' w' row, w'.ownsRow B e sz v' (n + 1) (olds ++ news) → w.grownBy w' row → (∀ g, row = some g → B ≤ g ∧ ∃ cs, w.heap[g]? = some (.cells cs e (0, 0))) → K (a.put o.dst v') w') : o.wp P a w K Q := by
  obtain ⟨v', w', row, hr, h8, h9, h10⟩ := run_app_soc_g (P := P) w t o.type e i z sz bytes h1 h2 h3 h4 h5 h6 h7 hso ad c news hnl hc h1c hB hl hb
  unfold Oper.wp execOp
  simp only [ho, resolve, invoke, builtin, Sem.run_bind, Sem.run_pure, Result.andThen_ok, List.map_toArray, List.map_cons, List.map_nil, hs, hx, hr]
  exact h v' w' row h8 h9 h10
/-- What Predict of the reference tells. -/
def PrrF (m : Mlt) (l : List Stp) (u : Value) (w : World) : Prop := ∃ S d, u = .agg (runArr (.slice S (fzK l l.length) d) (prR m l)) ∧ fzK l l.length ≤ d ∧ d ≤ maxLen ∧ SlIn 0 w (.slice S (fzK l l.length) d) (fzK l l.length) (prS m l)
/-- The run's sums after k steps. -/
def raK (l : List Stp) (s : Nat) (R : Nat → Int) (k : Nat) : Nat → Int := upd (upd R (8 + s * 2) (R (8 + s * 2) + (adK l s k).1)) (8 + s * 2 + 1) (R (8 + s * 2 + 1) + (adK l s k).2)
theorem soc_set {w : World} {base sz n tb i : Nat} {e : TypeId} {v u : Value} {xs : List Value} (h : SoC e sz base n xs v w) (hb : tb < base) : SoC e sz base n xs v (w.setCell ⟨tb, i, none⟩ u) := h.imp id fun ho => own_set ho hb
theorem soc_base {w : World} {base base' sz n : Nat} {e : TypeId} {v : Value} {xs : List Value} (h : SoC e sz base n xs v w) (hb : base' ≤ base) : SoC e sz base' n xs v w := h.imp id fun ho => own_base ho hb
theorem SoC.two {w : World} {e : TypeId} {B n k : Nat} {A : Option Addr} {c : Nat} {g : Nat → Nat → Value} (h : SoC e 2 B n (flat 2 g n) (.slice A n c) w) (hk : k < n) : ∃ b o, A = some ⟨b, o, none⟩ ∧ w.cell? ⟨b, o + k * 2, none⟩ = some (g k 0) ∧ w.cell? ⟨b, o + k * 2 + 1, none⟩ = some (g k 1) := by
  obtain ⟨A', c', e', _, _, hr⟩ := h.rd
  cases e'
  obtain ⟨b, o, hA, _, hc⟩ := hr (by omega)
  exact ⟨b, o, hA, hc k hk 0 (by omega), hc k hk 1 (by omega)⟩
theorem own_one {w : World} {e : TypeId} {B n k : Nat} {A : Option Addr} {c : Nat} {g : Nat → Nat → Value} (h : w.ownsRow B e 1 (.slice A n c) n (flat 1 g n)) (hk : k < n) : ∃ b o, A = some ⟨b, o, none⟩ ∧ w.cell? ⟨b, o + k, none⟩ = some (g k 0) := by
  obtain ⟨A', c', e', _, _, hr⟩ := Rd.of_own_max h
  cases e'
  obtain ⟨b, o, hA, _, hc⟩ := hr (by omega)
  exact ⟨b, o, hA, by have := hc k hk 0 (by omega); simpa using this⟩
theorem raK_more (l : List Stp) (s : Nat) {R : Nat → Int} {k : Nat} (h : adK l s (k + 1) = adK l s k) : raK l s R (k + 1) = raK l s R k := by rw [raK, h]; rfl
theorem raK_add (l : List Stp) (s : Nat) {R : Nat → Int} {k : Nat} {a b : Int} (ha : R (8 + s * 2) + (adK l s (k + 1)).1 = a) (hb : R (8 + s * 2 + 1) + (adK l s (k + 1)).2 = b) : upd (upd (raK l s R k) (8 + s * 2) a) (8 + s * 2 + 1) b = raK l s R (k + 1) := by
  funext j
  simp only [raK, upd, ha, hb]
  repeat' split
  all_goals first | rfl | omega
theorem raK_80 {l : List Stp} {s : Nat} {R : Nat → Int} {k : Nat} (h : R (8 + s * 2) = 0) : raK l s R k (8 + s * 2) = (adK l s k).1 := by
  rw [raK, upd, if_neg (by omega), upd, if_pos rfl, h, Int.zero_add]
theorem raK_81 {l : List Stp} {s : Nat} {R : Nat → Int} {k : Nat} (h : R (8 + s * 2 + 1) = 0) : raK l s R k (8 + s * 2 + 1) = (adK l s k).2 := by
  rw [raK, upd, if_pos rfl, h, Int.zero_add]
theorem Rd.by {w : World} {B n k s : Nat} {A : Option Addr} {xs : List Stp} (h : Rd w B 8 A n (rT xs)) (hk : k < n) (hs : s < 3) : ∃ b o, A = some ⟨b, o, none⟩ ∧ w.cell? ⟨b, o + k * 8, none⟩ = some (.int .u8 (at0 xs k).kd) ∧ w.cell? ⟨b, o + k * 8 + 2 + s * 2, none⟩ = some (I ((at0 xs k).b (s * 2))) ∧ w.cell? ⟨b, o + k * 8 + 2 + s * 2 + 1, none⟩ = some (I ((at0 xs k).b (s * 2 + 1))) := by
  obtain ⟨b, o, e, hb, hc⟩ := h (by omega)
  refine ⟨b, o, e, hc k hk 0 (by omega), ?_, ?_⟩
  · have := hc k hk (2 + s * 2) (by omega)
    rw [rT, if_neg (by omega), if_neg (by omega), show 2 + s * 2 - 2 = s * 2 by omega, ← Nat.add_assoc] at this
    exact this
  · have := hc k hk (2 + s * 2 + 1) (by omega)
    rw [rT, if_neg (by omega), if_neg (by omega), show 2 + s * 2 + 1 - 2 = s * 2 + 1 by omega, ← Nat.add_assoc, ← Nat.add_assoc] at this
    exact this
theorem raK_0 (l : List Stp) (s : Nat) (R : Nat → Int) : raK l s R 0 = R := by
  funext j
  simp only [raK, upd, adK]
  repeat' split
  all_goals first | rfl | omega | (subst_vars; simp only [Int.add_zero])
theorem raK_end (m : Mlt) (l : List Stp) (s : Nat) (R : Nat → Int) : upd (upd (raK l s R l.length) (2 + s * 2) (wkD m crsPoor s (m.ct (s * 2)) l l.length)) (2 + s * 2 + 1) (wkD m crsRich s (m.ct (s * 2 + 1)) l l.length) = rnK m l s R l.length := by
  funext j
  simp only [raK, rnK, upd]
  repeat' split
  all_goals first | rfl | omega
theorem rd_own {w : World} {e : TypeId} {B n : Nat} {A : Option Addr} {c : Nat} {g : Nat → Nat → Value} (h : w.ownsRow B e 1 (.slice A n c) n (flat 1 g n)) : Rd w w.heap.size 1 A n g := by
  obtain ⟨A', c', e', _, _, hr⟩ := Rd.of_own_max h
  cases e'
  exact hr
set_option maxRecDepth 100000 in
set_option maxHeartbeats 4000000 in
theorem refPredict_any (m : Mlt) (A : Option Addr) (c : Nat) (l : List Stp) (w : World) (B : Nat) (hB : B ≤ w.heap.size) (hx : Rd w B 8 A l.length (rT l)) (hck : ckF m l = 0) :
    Calls Tryd.prog 19 #[.agg (mltArr m), .slice A l.length c] w fun e w' => ∃ u, e = .returned u ∧ Below w.heap.size w w' ∧ PrrF m l u w' := by
  obtain ⟨W, hW⟩ : ∃ W, W = (w.alloc (.cells (mltArr m) 27)).alloc (.cells (runArr (.slice none 0 0) fun _ => 0) 35) := ⟨_, rfl⟩
  have hb0 : Below w.heap.size w W := by rw [hW]; exact ((Below.refl _ _).alloc (Nat.le_refl _) _).alloc (by simp) _
  have r0 : W.heap[w.heap.size]? = some (.cells (mltArr m) 27 (0, 0)) := by rw [hW]; exact heap_before (heap_last _ _ _ rfl)
  have r1 : W.heap[w.heap.size + 1]? = some (.cells (runArr (.slice none 0 0) fun _ => 0) 35 (0, 0)) := by rw [hW]; exact heap_last _ _ _ (by simp)
  have sW : w.heap.size + 2 = W.heap.size := by rw [hW]; simp
  have HW := Lib.hid hW
  have Hb0 := Lib.hid hb0
  have Hr0 := Lib.hid r0
  have Hr1 := Lib.hid r1
  have HX := Lib.hid hx
  have Hcl : Hid (isM m = true ∧ l.length ≤ 200 ∧ ∀ j, j < l.length → stE m l j = 0) := ckF_ok hck
  have y := fun k (v : Value) (h : (mltArr m)[k]? = some v) => (show W.cell? ⟨w.heap.size, k, none⟩ = some v by rw [cell_of_row _ _ _ _ _ _ r0]; exact h)
  have y0 := y 0 _ rfl
  have y1 := y 1 _ rfl
  have y2 := y 2 _ rfl
  have y3 := y 3 _ rfl
  have y4 := y 4 _ rfl
  have y5 := y 5 _ rfl
  have y6 := y 6 _ rfl
  clear y hW hb0 r0 r1 hx hck
  go_enter Tryd.func19, Tryd.ntmps19
  go_upto_region 1 with (fail)
  rw [← HW.out]
  go_upto_region 2 with (refine wpList_store_row rfl 35 _ _ rfl W.heap.size rfl _ _ (heap_last W (.cells (runArr (.slice none 0 0) fun _ => 0) 35) _ rfl) (runArr (.slice none 0 0) (rIni m m.ms)) (congrArg Value.agg (rIni_arr (.slice none 0 0) m m.ms).symm) (run_one rfl) rfl (by kernel_rfl) ?_)
  refine name_w fun V hV0 => ?_
  obtain ⟨tb, htb⟩ : ∃ q, W.heap.size = q := ⟨_, rfl⟩
  have hV : V = (W.alloc (.cells (runArr (.slice none 0 0) fun _ => 0) 35)).setRow tb (runArr (.slice none 0 0) (rIni m m.ms)) := by rw [← htb]; exact hV0
  clear hV0
  rw [htb]
  have rt : V.heap[tb]? = some (.cells (runArr (.slice none 0 0) (rIni m m.ms)) 35 (0, 0)) := by rw [hV]; exact setRow_same (heap_last _ _ _ htb.symm)
  have bV : Below W.heap.size W V := by rw [hV]; exact below_setRow ((Below.refl _ _).alloc (Nat.le_refl _) _) (by omega) _
  have sV : V.heap.size = tb + 1 := by rw [hV, setRow_size]; simp [htb]
  simp only [Act.put]
  have HV1 : Hid (Below tb W V) := by rw [← htb]; exact bV
  have HtV := Lib.hid rt
  obtain ⟨i0, hi0, iz0, iz1, iz2⟩ := info_parts frz_info
  rw [htb] at sW
  clear hV rt bV y0 y1 y2 y3 y4 y5 y6 htb
  go_wp2_with fail
  go_loopw [6] (fun i wr => ∃ (k : Nat) (sl : Value), k ≤ l.length ∧ i = .int .i64 k ∧ wr.ownsRow (tb + 1) 60 7 sl (fzK l k) (flat 7 (gM l) (fzK l k)) ∧ wr.heap[tb]? = some (.cells (runArr sl (rIni m (msK m l k))) 35 (0, 0)) ∧ Below tb W wr ∧ tb + 1 ≤ wr.heap.size) (fun i _ => l.length - (intOf i).toNat)
  case atStart => exact ⟨0, .slice none 0 0, by omega, rfl, ⟨rfl, .inl ⟨rfl, rfl⟩⟩, HtV.out, HV1.out, by omega⟩
  case round =>
    rename World => X0
    obtain ⟨k, sl, hk, rfl, hown, hrow, hbw, hsz⟩ := hrel
    have Hown := Lib.hid hown
    have Hrow := Lib.hid hrow
    have Hbw := Lib.hid hbw
    have LX : Hid (Below w.heap.size w X0) := Hb0.out.trans (hbw.mono (by omega))
    clear hown hrow hbw
    by_cases hlt : k < l.length
    · have hki : decide ((k : Int) < (l.length : Int)) = true := decide_eq_true (by omega)
      have hkn : decide (k < l.length) = true := decide_eq_true hlt
      obtain ⟨b, o, rfl, hbB, x0, x1, x2, x3, x4, x5, x6, x7⟩ := (HX.out.below (LX.out.mono hB)).stp hlt
      obtain ⟨hM, h200, hE⟩ := Hcl.out
      have hmb := msK_bd hM k fun j hj => hE j (by omega)
      have hxS := stE_isS (hE k hlt)
      have hxm := isS_ms hxS
      have hfk := fzK_le l k
      have w9 : IntKind.i64.wrap ((k : Int) + 1) = (k : Int) + 1 := IntWalk.i64_in _ (by omega)
      obtain ⟨x, hxx⟩ : ∃ x, at0 l k = x := ⟨_, rfl⟩
      rw [hxx] at x0 x1 x2 x3 x4 x5 x6 x7 hxS hxm
      have Hxx := Lib.hid hxx
      have HMs : Hid (grF (msK m l k) x = msK m l (k + 1)) := by show _ = _; rw [← hxx]; rfl
      clear hM hE hxx
      by_cases h1 : x.kd = 1
      · have e1 : (x.kd == 1) = true := by simpa using h1
        have H1 := Lib.hid h1
        clear h1
        go_upto_region 6 with (fail)
        have y0 := ovr_cell (show X0.cell? ⟨tb, 0, none⟩ = some sl by rw [cell_of_row _ _ _ _ _ _ Hrow.out]; rfl)
        have y1 := ovr_cell x1
        refine wp_region_seq2 9 (fun j => if j = 8 then some (SlAt X0 #[I x.ms, I 0, I 0, I 0, I 0, I 0, I 0] 60 1) else none) (by kernel_rfl) (by kernel_rfl) (by kernel_rfl) (by kernel_rfl) (by kernel_rfl) ?_
        simp only [List.take_succ_cons, List.take_zero, List.drop_succ_cons, List.drop_zero]
        repeat (refine wpG_one rfl rfl rfl ?_; intro K hK; go_big_quiet_op; go_big_quiet_on)
        refine wpG_make (SlAt X0 #[I x.ms, I 0, I 0, I 0, I 0, I 0, I 0] 60 1) rfl rfl (fun w' hw' _ => ?_) (fun u hu => ?_)
        · unfold Oper.grows
          go_simp
          exact slat_grow hw'
        obtain ⟨_, _, nb, rfl, _, _⟩ := hu
        simp only [Act.put, List.setIfInBounds_toArray, List.set_cons_zero, List.set_cons_succ]
        refine wpG_nil (fun w5 hw5 hG => ?_)
        obtain ⟨nb', he, hn5, _⟩ := Box.now hG.2
        obtain rfl : nb = nb' := by simp at he; first | exact he | exact he.1
        have b5 := hw5.le
        have own5 := own_below Hown.out b5
        have t5 := (b5.block tb (by omega)).trans Hrow.out
        have L5 : Below tb W w5 := Hbw.out.trans (b5.mono (by omega))
        have hs5 := b5.size
        have hfz : fzK l (k + 1) = fzK l k + 1 := by rw [fzK, Hxx.out, if_pos H1.out]
        have HF : flat 7 (gM l) (fzK l (k + 1)) = flat 7 (gM l) (fzK l k) ++ [I x.ms, I 0, I 0, I 0, I 0, I 0, I 0] := by
          rw [hfz, flat_succ 7 (by decide)]
          have e := (frz_at hlt (by rw [Hxx.out]; exact H1.out)).2
          rw [Hxx.out] at e
          show _ ++ (List.range 7).map (gM l (fzK l k)) = _
          have : (List.range 7).map (gM l (fzK l k)) = [I (at0 (frz l) (fzK l k)).ms, I 0, I 0, I 0, I 0, I 0, I 0] := rfl
          rw [this, e]
        refine wpTailIn_cons Wd.wide (by intro c h; cases h) ?_
        refine wp_app_soc_g _ _ 33 rfl 60 i0 _ 7 56 Tryd.underlying33 hi0 iz0 iz1 iz2 rfl (by decide) (tb + 1) (fzK l k) (flat 7 (gM l) (fzK l k)) sl rfl (.inr own5) ⟨nb, 0, none⟩ 1 [I x.ms, I 0, I 0, I 0, I 0, I 0, I 0] rfl (by rfl) (news_lit (cs := #[I x.ms, I 0, I 0, I 0, I 0, I 0, I 0]) hn5) (by simp [Value.oneCell']) (by omega) (by omega) (by decide) ?_
        intro v' w7 row own7 hg7 hr7
        obtain ⟨g', cap', rfl⟩ := ownsRow_succ own7
        have t7 : w7.heap[tb]? = some (.cells (runArr sl (rIni m (msK m l k))) 35 (0, 0)) := (hg7.block tb (by omega) (fun e => by have := (hr7 tb e.symm).1; omega)).trans t5
        have L7 : Below tb W w7 := L5.grown hg7 (by omega) (fun q hq => by have := (hr7 q hq).1; omega)
        have p0 : w7.cell? ⟨tb, 0, none⟩ = some sl := by rw [cell_of_row _ _ _ _ _ _ t7]; rfl
        have p1 := frozen_of_row _ _ 0 _ _ t7
        rw [← HF, ← hfz] at own7
        obtain ⟨fk, hfk'⟩ : ∃ q, fzK l k + 1 = q := ⟨_, rfl⟩
        rw [hfz, hfk'] at own7
        rw [hfk']
        have Hfk : Hid (fzK l (k + 1) = fk) := by show _ = _; rw [hfz, hfk']
        have Own7 := Lib.hid own7
        have T7 := Lib.hid t7
        have HL7 := Lib.hid L7
        have hs7 := hg7.size
        clear own7 t7 L7 hg7 hr7 own5 t5 L5 hn5 he hG hw5 b5 HF hfz hfk' hfk y0 y1
        simp only [Act.put, List.setIfInBounds_toArray, List.set_cons_zero, List.set_cons_succ]
        refine wpTailIn_cons Wd.wide (by intro c h; cases h) ?_
        unfold Oper.wp
        go_simp
        refine wpTailIn_cons Wd.wide (by intro c h; cases h) ?_
        unfold Oper.wp
        go_simp
        refine wpTailIn_nil ?_
        obtain ⟨Y, hY⟩ : ∃ Y, Y = w7.setCell ⟨tb, 0, none⟩ (.slice (some ⟨g', 0, none⟩) fk cap') := ⟨_, rfl⟩
        have HTB : Hid (Y.heap[tb]? = some (.cells (runArr (.slice (some ⟨g', 0, none⟩) fk cap') (rIni m (msK m l k))) 35 (0, 0))) := by
          show _ = _; rw [hY]; exact rs T7.out 0 _
        have HOY : Hid (Y.ownsRow (tb + 1) 60 7 (.slice (some ⟨g', 0, none⟩) fk cap') (fzK l (k + 1)) (flat 7 (gM l) (fzK l (k + 1)))) := by
          rw [hY, Hfk.out]; exact own_set Own7.out (by omega)
        have HLY : Hid (Below tb W Y) := by
          show Below _ _ _; rw [hY]; exact HL7.out.setCell (p := ⟨tb, 0, none⟩) (Nat.le_refl _) _
        have s03 : tb + 1 ≤ Y.heap.size := by rw [hY]; simp; omega
        rw [← hY]
        clear hY p0 p1 Own7 T7 HL7 hs7 x0 x1 x2 x3 x4 x5 x6 x7
        obtain ⟨b', o', he', _, x0, x1, x2, x3, x4, x5, x6, x7⟩ := (HX.out.below ((Hb0.out.trans (HLY.out.mono (by omega))).mono hB)).stp hlt
        obtain ⟨rfl, rfl⟩ : b = b' ∧ o = o' := by simp at he'; exact he'
        rw [Hxx.out] at x0 x1 x2 x3 x4 x5 x6 x7
        have y0 := ovr_cell x0
        have y1 := ovr_cell x1
        have y2 := ovr_cell x2
        have y3 := ovr_cell x3
        have y4 := ovr_cell x4
        have y5 := ovr_cell x5
        have y6 := ovr_cell x6
        have y7 := ovr_cell x7
        have p0 := ovr_cell (show Y.cell? ⟨tb, 1, none⟩ = some (I (msK m l k)) by rw [cell_of_row _ _ _ _ _ _ HTB.out]; rfl)
        have hmm : Hid (∀ w', Calls Tryd.prog 45 #[I (msK m l k), .agg (stpArr x)] w' fun e w'' => e = .returned (I (grF (msK m l k) x)) ∧ Below w'.heap.size w' w'') := fun w' => mass_any (msK m l k) x w' (by omega) (fun h => by have := hxm h; omega)
        obtain ⟨mn, hmn⟩ : ∃ q, grF (msK m l k) x = q := ⟨_, rfl⟩
        rw [hmn] at HMs hmm
        clear hmn he' x0 x1 x2 x3 x4 x5 x6 x7
        go_upto_region 7 with (fail)
        refine wp_region_seq2 10 (fun j => if j = 7 then some (fun u _ => u = I mn) else none) (by kernel_rfl) (by kernel_rfl) (by kernel_rfl) (by kernel_rfl) (by kernel_rfl) ?_
        simp only [List.take_succ_cons, List.take_zero, List.drop_succ_cons, List.drop_zero]
        repeat (refine wpG_one rfl rfl rfl ?_; intro K hK; go_big_quiet_op; go_big_quiet_on)
        refine wpG_make (fun u _ => u = I mn) rfl rfl (fun w' hw' _ => ?_) (fun u hu => ?_)
        · go_simp
          exact call_grow (hmm.out w')
        obtain ⟨_, _, rfl⟩ := hu
        simp only [Act.put, List.setIfInBounds_toArray, List.set_cons_zero, List.set_cons_succ]
        repeat (refine wpG_one rfl rfl rfl ?_; intro K hK; go_big_quiet_op; go_big_quiet_on)
        refine wpG_nil (fun w8 hw8 hG => ?_)
        clear hG y0 y1 y2 y3 y4 y5 y6 y7 p0 hmm
        have b8 := hw8.le
        have r8 := (b8.block tb (Array.getElem?_eq_some_iff.1 HTB.out).1).trans HTB.out
        have p0 : w8.cell? ⟨tb, 1, none⟩ = some (I (msK m l k)) := by rw [cell_of_row _ _ _ _ _ _ r8]; rfl
        have p1 := frozen_of_row _ _ 1 _ _ r8
        refine wpTailIn_cons Wd.wide (by intro c h; cases h) ?_
        unfold Oper.wp
        go_simp
        refine wpTailIn_nil ?_
        have own8 := own_below HOY.out b8
        have R8 := Lib.hid r8
        have H8 := Lib.hid b8
        have O8 := Lib.hid (own_set (i := 1) (u := I mn) own8 (show tb < tb + 1 by omega))
        clear hw8 b8 r8 p0 p1 own8
        go_wp2_with fail
        go_roundw
        case rel =>
          refine ⟨k + 1, _, by omega, by go_num, O8.out, ?_, (HLY.out.trans (H8.out.mono (by omega))).setCell (p := ⟨tb, 1, none⟩) (Nat.le_refl _) _, by have := H8.out.size; simp; omega⟩
          rw [← HMs.out, ← rIni_set m (msK m l k) mn, ← run_set _ _ 1 _ (by omega)]
          exact rs R8.out _ _
        case measure => simp [intOf]; omega
      · have e1 : (x.kd == 1) = false := by simpa using h1
        have hfz : fzK l (k + 1) = fzK l k := by rw [fzK, Hxx.out, if_neg h1]
        have HTB := Lib.hid Hrow.out
        have HOY : Hid (X0.ownsRow (tb + 1) 60 7 sl (fzK l (k + 1)) (flat 7 (gM l) (fzK l (k + 1)))) := by rw [hfz]; exact Hown.out
        have HLY := Lib.hid Hbw.out
        clear h1 hfz
        obtain ⟨Y, hY⟩ : ∃ Y, Y = X0 := ⟨_, rfl⟩
        subst hY
        go_upto_region 7 with (fail)
        clear x0 x1 x2 x3 x4 x5 x6 x7
        obtain ⟨b', o', he', _, x0, x1, x2, x3, x4, x5, x6, x7⟩ := (HX.out.below ((Hb0.out.trans (HLY.out.mono (by omega))).mono hB)).stp hlt
        obtain ⟨rfl, rfl⟩ : b = b' ∧ o = o' := by simp at he'; exact he'
        rw [Hxx.out] at x0 x1 x2 x3 x4 x5 x6 x7
        have y0 := ovr_cell x0
        have y1 := ovr_cell x1
        have y2 := ovr_cell x2
        have y3 := ovr_cell x3
        have y4 := ovr_cell x4
        have y5 := ovr_cell x5
        have y6 := ovr_cell x6
        have y7 := ovr_cell x7
        have p0 := ovr_cell (show Y.cell? ⟨tb, 1, none⟩ = some (I (msK m l k)) by rw [cell_of_row _ _ _ _ _ _ HTB.out]; rfl)
        have hmm : Hid (∀ w', Calls Tryd.prog 45 #[I (msK m l k), .agg (stpArr x)] w' fun e w'' => e = .returned (I (grF (msK m l k) x)) ∧ Below w'.heap.size w' w'') := fun w' => mass_any (msK m l k) x w' (by omega) (fun h => by have := hxm h; omega)
        obtain ⟨mn, hmn⟩ : ∃ q, grF (msK m l k) x = q := ⟨_, rfl⟩
        rw [hmn] at HMs hmm
        clear hmn he' x0 x1 x2 x3 x4 x5 x6 x7
        go_upto_region 7 with (fail)
        refine wp_region_seq2 10 (fun j => if j = 7 then some (fun u _ => u = I mn) else none) (by kernel_rfl) (by kernel_rfl) (by kernel_rfl) (by kernel_rfl) (by kernel_rfl) ?_
        simp only [List.take_succ_cons, List.take_zero, List.drop_succ_cons, List.drop_zero]
        repeat (refine wpG_one rfl rfl rfl ?_; intro K hK; go_big_quiet_op; go_big_quiet_on)
        refine wpG_make (fun u _ => u = I mn) rfl rfl (fun w' hw' _ => ?_) (fun u hu => ?_)
        · go_simp
          exact call_grow (hmm.out w')
        obtain ⟨_, _, rfl⟩ := hu
        simp only [Act.put, List.setIfInBounds_toArray, List.set_cons_zero, List.set_cons_succ]
        repeat (refine wpG_one rfl rfl rfl ?_; intro K hK; go_big_quiet_op; go_big_quiet_on)
        refine wpG_nil (fun w8 hw8 hG => ?_)
        clear hG y0 y1 y2 y3 y4 y5 y6 y7 p0 hmm
        have b8 := hw8.le
        have r8 := (b8.block tb (Array.getElem?_eq_some_iff.1 HTB.out).1).trans HTB.out
        have p0 : w8.cell? ⟨tb, 1, none⟩ = some (I (msK m l k)) := by rw [cell_of_row _ _ _ _ _ _ r8]; rfl
        have p1 := frozen_of_row _ _ 1 _ _ r8
        refine wpTailIn_cons Wd.wide (by intro c h; cases h) ?_
        unfold Oper.wp
        go_simp
        refine wpTailIn_nil ?_
        have own8 := own_below HOY.out b8
        have R8 := Lib.hid r8
        have H8 := Lib.hid b8
        have O8 := Lib.hid (own_set (i := 1) (u := I mn) own8 (show tb < tb + 1 by omega))
        clear hw8 b8 r8 p0 p1 own8
        go_wp2_with fail
        go_roundw
        case rel =>
          refine ⟨k + 1, _, by omega, by go_num, O8.out, ?_, (HLY.out.trans (H8.out.mono (by omega))).setCell (p := ⟨tb, 1, none⟩) (Nat.le_refl _) _, by have := H8.out.size; simp; omega⟩
          rw [← HMs.out, ← rIni_set m (msK m l k) mn, ← run_set _ _ 1 _ (by omega)]
          exact rs R8.out _ _
        case measure => simp [intOf]; omega
    · obtain rfl : k = l.length := by omega
      have hki : decide ((l.length : Int) < (l.length : Int)) = false := decide_eq_false (by omega)
      obtain ⟨sA, sc, hsl, hsc1, hsc2, _⟩ := Rd.of_own_max Hown.out
      have hnb : ∀ q, sl.ownBlock = some q → tb + 1 ≤ q ∧ q < X0.heap.size := fun q hq => Hown.out.lt q hq
      have HS0 := Lib.hid (SlIn.of_own Hown.out)
      have HnB := Lib.hid hnb
      have HSL := Lib.hid (And.intro hsl (And.intro hsc1 hsc2))
      clear Hown hsl hnb hsc1 hsc2
      go_wp2_with fail
      go_loopw [7] (fun i wr => ∃ s : Nat, s ≤ 3 ∧ i = .int .i64 s ∧ wr.heap[tb]? = some (.cells (runArr sl (prRk m l s)) 35 (0, 0)) ∧ SlIn (tb + 1) wr sl (fzK l l.length) (prSk m l s) ∧ Below tb W wr ∧ X0.heap.size ≤ wr.heap.size) (fun i _ => 3 - (intOf i).toNat)
      case atStart => exact ⟨0, by omega, rfl, Hrow.out, HS0.out, Hbw.out, Nat.le_refl _⟩
      case round =>
        rename World => X1
        obtain ⟨s, hs3, rfl, hrow, hsl, hbw, hsz1⟩ := hrel
        have HbC := Lib.hid hbw
        have Hrow1 := Lib.hid hrow
        have Hsl1 := Lib.hid hsl
        clear hrow hsl hbw Hrow HS0 Hbw LX
        by_cases hs : s < 3
        · have d2 : decide ((s : Int) < 3) = true := decide_eq_true (by omega)
          have d3 : decide (s < 3) = true := decide_eq_true hs
          have d4 : decide (0 ≤ (s : Int)) = true := decide_eq_true (by omega)
          obtain ⟨R, hR⟩ : ∃ R, prRk m l s = R := ⟨_, rfl⟩
          obtain ⟨g, hg⟩ : ∃ g, prSk m l s = g := ⟨_, rfl⟩
          have HRg := Lib.hid (And.intro hR hg)
          have HR0 : Hid (R (8 + s * 2) = 0 ∧ R (8 + s * 2 + 1) = 0) := by rw [← hR]; exact ⟨prRk_zero s hs3 (by omega), prRk_zero s hs3 (by omega)⟩
          rw [hR] at Hrow1
          rw [hg] at Hsl1
          clear hR hg
          obtain ⟨XC, hXC⟩ : ∃ X, X = X1 := ⟨_, rfl⟩
          subst hXC
          have r0 := (HbC.out.block w.heap.size (by omega)).trans Hr0.out
          have y := fun k (v : Value) (h : (mltArr m)[k]? = some v) => (show XC.cell? ⟨w.heap.size, k, none⟩ = some v by rw [cell_of_row _ _ _ _ _ _ r0]; exact h)
          have y0 := y 0 _ rfl
          have y1 := y 1 _ rfl
          have y2 := y 2 _ rfl
          have y3 := y 3 _ rfl
          have y4 := y 4 _ rfl
          have y5 := y 5 _ rfl
          have y6 := y 6 _ rfl
          clear y r0
          go_wp2_with fail
          refine (course_any m crsPoor s l A c B XC hs Hcl.out.2.1 Hcl.out.1 Hcl.out.2.2 (by have := HbC.out.size; omega) (HX.out.below ((Hb0.out.trans (HbC.out.mono (by omega))).mono hB))).mono ?_
          rintro e X2 ⟨u, rfl, hbD, V1, V2, rfl, hv1, hv2⟩
          obtain ⟨paA, pac, rfl, pah1, pah2, _⟩ := Rd.of_own_max hv1
          obtain ⟨pbA, pbc, rfl, pbh1, pbh2, _⟩ := hv2.rd
          have pHU := Lib.hid hv1
          have pHC := Lib.hid hv2
          have pHD := Lib.hid hbD
          have pHT : Hid (Below tb W X2) := HbC.out.trans (hbD.mono (by have := HbC.out.size; omega))
          have psz := hbD.size
          clear hv1 hv2 hbD y0 y1 y2 y3 y4 y5 y6
          have r0 := (pHT.out.block w.heap.size (by omega)).trans Hr0.out
          have y := fun k (v : Value) (h : (mltArr m)[k]? = some v) => (show X2.cell? ⟨w.heap.size, k, none⟩ = some v by rw [cell_of_row _ _ _ _ _ _ r0]; exact h)
          have y0 := y 0 _ rfl
          have y1 := y 1 _ rfl
          have y2 := y 2 _ rfl
          have y3 := y 3 _ rfl
          have y4 := y 4 _ rfl
          have y5 := y 5 _ rfl
          have y6 := y 6 _ rfl
          clear y r0
          go_wp2_with fail
          refine (course_any m crsRich s l A c B X2 hs Hcl.out.2.1 Hcl.out.1 Hcl.out.2.2 (by have := pHT.out.size; omega) (HX.out.below ((Hb0.out.trans (pHT.out.mono (by omega))).mono hB))).mono ?_
          rintro e X3 ⟨u, rfl, hbD, V1, V2, rfl, hv1, hv2⟩
          obtain ⟨qaA, qac, rfl, qah1, qah2, _⟩ := Rd.of_own_max hv1
          obtain ⟨qbA, qbc, rfl, qbh1, qbh2, _⟩ := hv2.rd
          have qHU := Lib.hid hv1
          have qHC := Lib.hid hv2
          have qHD := Lib.hid hbD
          have qHT : Hid (Below tb W X3) := pHT.out.trans (hbD.mono (by have := pHT.out.size; omega))
          have qsz := hbD.size
          clear hv1 hv2 hbD y0 y1 y2 y3 y4 y5 y6
          have hX1 : X0.heap.size ≤ XC.heap.size := hsz1
          have b13 : Below XC.heap.size XC X3 := pHD.out.trans (qHD.out.mono pHD.out.size)
          have Hrow3 := Lib.hid ((b13.block tb (by omega)).trans Hrow1.out)
          have Hsl3 := Lib.hid (Hsl1.out.row (w' := X3) fun q hq _ hlt' => b13.block q hlt')
          have HPU := Lib.hid (own_below pHU.out qHD.out)
          have HPC := Lib.hid (pHC.out.over qHD.out)
          have HQU := Lib.hid (own_base qHU.out (show XC.heap.size ≤ X2.heap.size by omega))
          have HQC := Lib.hid (soc_base qHC.out (show XC.heap.size ≤ X2.heap.size by omega))
          obtain ⟨z, hz⟩ : ∃ z, XC.heap.size = z := ⟨_, rfl⟩
          rw [hz] at HPU HPC HQU HQC
          have hzt : tb + 1 ≤ z ∧ X0.heap.size ≤ z ∧ z ≤ X3.heap.size := by omega
          have HT3 := Lib.hid qHT.out
          clear b13 pHU pHC qHU qHC pHD qHD pHT qHT hz Hrow1 Hsl1 HbC hX1 hsz1 psz qsz
          go_wp2_with fail
          go_loopw [12, 13] (fun kv i wr => ∃ k : Nat, k ≤ l.length ∧ i = .int .i64 k ∧ kv = I (fzK l k : Int) ∧ wr.heap[tb]? = some (.cells (runArr sl (raK l s R k)) 35 (0, 0)) ∧ SlIn (tb + 1) wr sl (fzK l l.length) (slK m l s g k) ∧
            wr.ownsRow z 3 1 (.slice paA (l.length + 1) pac) (l.length + 1) (flat 1 (rU m crsPoor s (stF crsPoor (m.ct (s * 2)) (m.ct (s * 2 + 1))) l) (l.length + 1)) ∧ SoC 108 2 z l.length (flat 2 (rC m crsPoor s (stF crsPoor (m.ct (s * 2)) (m.ct (s * 2 + 1))) l) l.length) (.slice pbA l.length pbc) wr ∧
            wr.ownsRow z 3 1 (.slice qaA (l.length + 1) qac) (l.length + 1) (flat 1 (rU m crsRich s (stF crsRich (m.ct (s * 2)) (m.ct (s * 2 + 1))) l) (l.length + 1)) ∧ SoC 108 2 z l.length (flat 2 (rC m crsRich s (stF crsRich (m.ct (s * 2)) (m.ct (s * 2 + 1))) l) l.length) (.slice qbA l.length qbc) wr ∧
            Below tb W wr ∧ X3.heap.size ≤ wr.heap.size) (fun _ i _ => l.length - (intOf i).toNat)
          case atStart =>
            refine ⟨0, by omega, rfl, rfl, ?_, Hsl3.out, HPU.out, HPC.out, HQU.out, HQC.out, HT3.out, Nat.le_refl _⟩
            rw [raK_0]; exact Hrow3.out
          case round =>
            rename World => Y0
            obtain ⟨k, hk, rfl, rfl, hrow, hsl, hpu, hpc, hqu, hqc, hbw, hszY⟩ := hrel
            have Hrow := Lib.hid hrow
            have Hsl := Lib.hid hsl
            have Hpu := Lib.hid hpu
            have Hpc := Lib.hid hpc
            have Hqu := Lib.hid hqu
            have Hqc := Lib.hid hqc
            have Hbw := Lib.hid hbw
            clear hrow hsl hpu hpc hqu hqc hbw Hrow3 Hsl3 HPU HPC HQU HQC HT3
            by_cases hlt : k < l.length
            · have hki : decide ((k : Int) < (l.length : Int)) = true := decide_eq_true (by omega)
              have hkn : decide (k < l.length) = true := decide_eq_true hlt
              have hk0 : decide (0 ≤ (k : Int)) = true := decide_eq_true (by omega)
              obtain ⟨b, o, rfl, hbB, x0, x1, x2, x3, x4, x5, x6, x7⟩ := (HX.out.below ((Hb0.out.trans (Hbw.out.mono (by omega))).mono hB)).stp hlt
              have hxS := stE_isS (Hcl.out.2.2 k hlt)
              have hkx := isS_kd hxS
              have h200 := Hcl.out.2.1
              have w9 : IntKind.i64.wrap ((k : Int) + 1) = (k : Int) + 1 := IntWalk.i64_in _ (by omega)
              obtain ⟨x, hxx⟩ : ∃ x, at0 l k = x := ⟨_, rfl⟩
              rw [hxx] at x0 hkx
              have Hxx := Lib.hid hxx
              clear hxx hxS x1 x2 x3 x4 x5 x6 x7
              by_cases h1 : x.kd = 1
              · have e1 : (x.kd == 1) = true := by simpa using h1
                have e2 : (x.kd == 2) = false := by rw [h1]; rfl
                have e3 : (x.kd == 3) = false := by rw [h1]; rfl
                have H1 := Lib.hid h1
                clear hkx h1
                go_upto_region 18 with (fail)
                have hfz : fzK l (k + 1) = fzK l k + 1 := by rw [fzK, Hxx.out, if_pos H1.out]
                have hsk : slK m l s g (k + 1) = upd2 (slK m l s g k) (fzK l k) (1 + s * 2) (lwK m s l k) (hgK m s l k) := by rw [slK, Hxx.out, if_pos H1.out]
                have hra : raK l s R (k + 1) = raK l s R k := raK_more l s (by rw [adK, Hxx.out, if_neg (by have := H1.out; omega)])
                have hfn : fzK l k < fzK l l.length := by have := fzK_mono l (show k + 1 ≤ l.length by omega); omega
                rcases Hsl.out with h0 | ⟨b1, cc, cs, rfl, hb1, hb2, hb3⟩
                · omega
                obtain ⟨b2, o2, rfl, y1, _⟩ := Hpc.out.two hlt
                obtain ⟨b4, o4, rfl, _, y2⟩ := Hqc.out.two hlt
                have y1 : Y0.cell? ⟨b2, o2 + k * 2, none⟩ = some (I (lwK m s l k)) := y1
                have y2 : Y0.cell? ⟨b4, o4 + k * 2 + 1, none⟩ = some (I (hgK m s l k)) := y2
                obtain ⟨lw, hlw⟩ : ∃ q, lwK m s l k = q := ⟨_, rfl⟩
                obtain ⟨hg', hhg⟩ : ∃ q, hgK m s l k = q := ⟨_, rfl⟩
                rw [hlw] at y1 hsk
                rw [hhg] at y2 hsk
                obtain ⟨fk, hfk⟩ : ∃ q, fzK l k = q := ⟨_, rfl⟩
                rw [hfk] at hfz hsk hfn ⊢
                have hf200 : fk ≤ 200 := by have := fzK_le l k; omega
                have Hq := Lib.hid (And.intro hfz (And.intro hsk hra))
                have i1 : decide ((fk : Int) < ((fzK l l.length : Nat) : Int)) = true := decide_eq_true (by omega)
                have i2 : decide (fk < fzK l l.length) = true := decide_eq_true hfn
                have i3 : decide (0 ≤ (fk : Int)) = true := decide_eq_true (by omega)
                have w1 : IntKind.i64.wrap ((fk : Int) + 1) = (fk : Int) + 1 := IntWalk.i64_in _ (by omega)
                have p0 := ovr_cell (show Y0.cell? ⟨tb, 0, none⟩ = some (.slice (some ⟨b1, 0, none⟩) (fzK l l.length) cc) by rw [cell_of_row _ _ _ _ _ _ Hrow.out]; rfl)
                have p1 := ovr_cell y1
                have p2 := ovr_cell y2
                clear hfz hsk hra hlw hhg hfk y1 y2 x0
                obtain ⟨nf, hnf⟩ : ∃ q, fzK l l.length = q := ⟨_, rfl⟩
                have Hnf := Lib.hid hnf
                simp only [hnf] at p0 i1 i2 hfn
                refine wp_region_seq2 18 (fun _ => none) (by kernel_rfl) (by kernel_rfl) (by kernel_rfl) (by kernel_rfl) (by kernel_rfl) ?_
                simp only [List.take_succ_cons, List.take_zero, List.drop_succ_cons, List.drop_zero]
                clear hnf
                repeat (refine wpG_one rfl rfl rfl ?_; intro K hK; go_big_quiet_op; go_big_quiet_on)
                refine wpG_nil (fun w5 hw5 hG => ?_)
                clear hG p0 p1 p2 i1 i2 i3
                have b5 := hw5.le
                have hb1n := HnB.out b1 rfl
                have r5 := (b5.block b1 (by omega)).trans hb2
                have hcs : fk * 7 + (1 + s * 2) + 1 < cs.size := (Array.getElem?_eq_some_iff.1 (hb3 fk (1 + s * 2 + 1) (by rw [Hnf.out]; exact hfn) (by omega))).1
                refine wpTailIn_cons Wd.wide (by intro c h; cases h) ?_
                refine wp_store2 _ _ rfl b1 (fk * 7 + (1 + s * 2)) (by simp [Act.eval]) _ _ rfl cs 60 r5 hcs ?_
                refine wpTailIn_nil ?_
                simp only [Act.put]
                obtain ⟨Z, hZ⟩ : ∃ Z, Z = (w5.setCell ⟨b1, fk * 7 + (1 + s * 2), none⟩ (I lw)).setCell ⟨b1, fk * 7 + (1 + s * 2) + 1, none⟩ (I hg') := ⟨_, rfl⟩
                have oZ : ∀ q, q ≠ b1 → Z.heap[q]? = w5.heap[q]? := fun q hq => by rw [hZ]; exact (heap_setCell_other _ _ _ _ hq).trans (heap_setCell_other _ _ _ _ hq)
                have zsl : SlIn (tb + 1) Z (.slice (some ⟨b1, 0, none⟩) (fzK l l.length) cc) (fzK l l.length) (upd2 (slK m l s g k) fk (1 + s * 2) lw hg') := by
                  rw [hZ]; exact SlIn.set hb1 r5 hb3 (by rw [Hnf.out]; exact hfn) (show 1 + s * 2 + 1 < 7 by omega) lw hg'
                have zrow := (oZ tb (by omega)).trans ((b5.block tb (by omega)).trans Hrow.out)
                have zpu : Z.ownsRow z 3 1 (.slice paA (l.length + 1) pac) (l.length + 1) (flat 1 (rU m crsPoor s (stF crsPoor (m.ct (s * 2)) (m.ct (s * 2 + 1))) l) (l.length + 1)) := by rw [hZ]; exact own_set (own_set (own_below Hpu.out b5) (by omega)) (by omega)
                have zqu : Z.ownsRow z 3 1 (.slice qaA (l.length + 1) qac) (l.length + 1) (flat 1 (rU m crsRich s (stF crsRich (m.ct (s * 2)) (m.ct (s * 2 + 1))) l) (l.length + 1)) := by rw [hZ]; exact own_set (own_set (own_below Hqu.out b5) (by omega)) (by omega)
                have zpc : SoC 108 2 z l.length (flat 2 (rC m crsPoor s (stF crsPoor (m.ct (s * 2)) (m.ct (s * 2 + 1))) l) l.length) (.slice (some ⟨b2, o2, none⟩) l.length pbc) Z := by rw [hZ]; exact soc_set (soc_set (Hpc.out.over b5) (by omega)) (by omega)
                have zqc : SoC 108 2 z l.length (flat 2 (rC m crsRich s (stF crsRich (m.ct (s * 2)) (m.ct (s * 2 + 1))) l) l.length) (.slice (some ⟨b4, o4, none⟩) l.length qbc) Z := by rw [hZ]; exact soc_set (soc_set (Hqc.out.over b5) (by omega)) (by omega)
                have zbw : Below tb W Z := by rw [hZ]; exact ((Hbw.out.trans (b5.mono (by omega))).setCell (p := ⟨b1, _, none⟩) (by show tb ≤ b1; omega) _).setCell (p := ⟨b1, _, none⟩) (by show tb ≤ b1; omega) _
                have zsz : X3.heap.size ≤ Z.heap.size := by have := b5.size; rw [hZ]; simp; omega
                have HZ := Lib.hid (And.intro zrow (And.intro zsl (And.intro zpu (And.intro zpc (And.intro zqu (And.intro zqc zbw))))))
                rw [← hZ]
                clear hZ oZ zrow zsl zpu zpc zqu zqc zbw b5 hw5 r5 hcs hb2 hb3 Hrow Hsl Hpu Hpc Hqu Hqc Hbw
                obtain ⟨_, _, he', _, x0, _⟩ := (HX.out.below ((Hb0.out.trans (HZ.out.2.2.2.2.2.2.mono (by omega))).mono hB)).stp hlt
                obtain ⟨rfl, rfl⟩ := by simpa using he'
                rw [Hxx.out] at x0
                clear he'
                go_wp2_with fail
                go_roundw
                case rel => exact ⟨k + 1, by omega, by go_num, by rw [Hq.out.1]; go_num, by rw [Hq.out.2.2]; exact HZ.out.1, by rw [Hq.out.2.1]; exact HZ.out.2.1, HZ.out.2.2.1, HZ.out.2.2.2.1, HZ.out.2.2.2.2.1, HZ.out.2.2.2.2.2.1, HZ.out.2.2.2.2.2.2, zsz⟩
                case measure => simp [intOf]; omega
              by_cases h23 : x.kd = 2 ∨ x.kd = 3
              · have e1 : (x.kd == 1) = false := by simpa using h1
                have H1 := Lib.hid h23
                clear hkx h1
                rcases h23 with h2 | h2
                · have e2 : (x.kd == 2) = true := by simpa using h2
                  clear h2
                  obtain ⟨_, _, he', _, y1, y2⟩ := (HX.out.below ((Hb0.out.trans (Hbw.out.mono (by omega))).mono hB)).by hlt hs
                  obtain ⟨rfl, rfl⟩ := by simpa using he'
                  rw [Hxx.out] at y1 y2
                  clear he'
                  have hfz : fzK l (k + 1) = fzK l k := by rw [fzK, Hxx.out, if_neg (by have := H1.out; omega)]
                  have hsk : slK m l s g (k + 1) = slK m l s g k := by rw [slK, Hxx.out, if_neg (by have := H1.out; omega)]
                  have had : adK l s (k + 1) = ((adK l s k).1 + x.b (s * 2), (adK l s k).2 + x.b (s * 2 + 1)) := by rw [adK, Hxx.out, if_pos H1.out]
                  have hab1 := adK_bd (m := m) (l := l) hs (k + 1) (fun j hj => Hcl.out.2.2 j (by omega))
                  have z1 : Y0.cell? ⟨tb, 8 + s * 2, none⟩ = some (I (adK l s k).1) := by rw [cell_of_row _ _ _ _ _ _ Hrow.out, run_at _ _ _ (by omega), raK_80 HR0.out.1]
                  have z2 : Y0.cell? ⟨tb, 8 + s * 2 + 1, none⟩ = some (I (adK l s k).2) := by rw [cell_of_row _ _ _ _ _ _ Hrow.out, run_at _ _ _ (by omega), raK_81 HR0.out.2]
                  have hra : upd (upd (raK l s R k) (8 + s * 2) ((adK l s k).1 + x.b (s * 2))) (8 + s * 2 + 1) ((adK l s k).2 + x.b (s * 2 + 1)) = raK l s R (k + 1) := raK_add l s (by rw [HR0.out.1, had, Int.zero_add]) (by rw [HR0.out.2, had, Int.zero_add])
                  rw [had] at hab1
                  simp only at hab1
                  obtain ⟨a0, ha0⟩ : ∃ q, (adK l s k).1 = q := ⟨_, rfl⟩
                  obtain ⟨a1, ha1⟩ : ∃ q, (adK l s k).2 = q := ⟨_, rfl⟩
                  rw [ha0, ha1] at hab1 hra
                  rw [ha0] at z1
                  rw [ha1] at z2
                  have w1 : IntKind.i64.wrap (a0 + x.b (s * 2)) = a0 + x.b (s * 2) := IntWalk.i64_in _ (by omega)
                  have w2 : IntKind.i64.wrap (a1 + x.b (s * 2 + 1)) = a1 + x.b (s * 2 + 1) := IntWalk.i64_in _ (by omega)
                  have Hq := Lib.hid (And.intro hfz (And.intro hsk hra))
                  clear ha0 ha1 hab1 hra hfz hsk had
                  go_upto_region 21 with (fail)
                  have p1 := ovr_cell z1
                  have p2 := ovr_cell z2
                  have p3 := ovr_cell y1
                  have p4 := ovr_cell y2
                  clear y1 y2 z1 z2 x0
                  refine wp_region_seq2 32 (fun _ => none) (by kernel_rfl) (by kernel_rfl) (by kernel_rfl) (by kernel_rfl) (by kernel_rfl) ?_
                  simp only [List.take_succ_cons, List.take_zero, List.drop_succ_cons, List.drop_zero]
                  repeat (refine wpG_one rfl rfl rfl ?_; intro K hK; go_big_quiet_op; go_big_quiet_on)
                  refine wpG_nil (fun w5 hw5 hG => ?_)
                  clear hG p1 p2 p3 p4
                  have b5 := hw5.le
                  have r5 := (b5.block tb (by omega)).trans Hrow.out
                  refine wpTailIn_cons Wd.wide (by intro c h; cases h) ?_
                  refine wp_store2 _ _ rfl tb (8 + s * 2) (by simp [Act.eval]) _ _ rfl _ _ r5 (by simp; omega) ?_
                  refine wpTailIn_nil ?_
                  simp only [Act.put]
                  obtain ⟨Z, hZ⟩ : ∃ Z, Z = (w5.setCell ⟨tb, 8 + s * 2, none⟩ (I (a0 + x.b (s * 2)))).setCell ⟨tb, 8 + s * 2 + 1, none⟩ (I (a1 + x.b (s * 2 + 1))) := ⟨_, rfl⟩
                  have oZ : ∀ q, q ≠ tb → Z.heap[q]? = w5.heap[q]? := fun q hq => by rw [hZ]; exact (heap_setCell_other _ _ _ _ hq).trans (heap_setCell_other _ _ _ _ hq)
                  have zrow : Z.heap[tb]? = some (.cells (runArr sl (raK l s R (k + 1))) 35 (0, 0)) := by
                    rw [hZ, ← Hq.out.2.2, ← run_set sl _ (8 + s * 2 + 1) _ (by omega), ← run_set sl _ (8 + s * 2) _ (by omega)]
                    exact rs (rs r5 _ _) _ _
                  have zsl := Hsl.out.row (w' := Z) fun q hq _ hlt' => (oZ q (by have := HnB.out q hq; omega)).trans (b5.block q hlt')
                  have zpu : Z.ownsRow z 3 1 (.slice paA (l.length + 1) pac) (l.length + 1) (flat 1 (rU m crsPoor s (stF crsPoor (m.ct (s * 2)) (m.ct (s * 2 + 1))) l) (l.length + 1)) := by rw [hZ]; exact own_set (own_set (own_below Hpu.out b5) (by omega)) (by omega)
                  have zqu : Z.ownsRow z 3 1 (.slice qaA (l.length + 1) qac) (l.length + 1) (flat 1 (rU m crsRich s (stF crsRich (m.ct (s * 2)) (m.ct (s * 2 + 1))) l) (l.length + 1)) := by rw [hZ]; exact own_set (own_set (own_below Hqu.out b5) (by omega)) (by omega)
                  have zpc : SoC 108 2 z l.length (flat 2 (rC m crsPoor s (stF crsPoor (m.ct (s * 2)) (m.ct (s * 2 + 1))) l) l.length) (.slice pbA l.length pbc) Z := by rw [hZ]; exact soc_set (soc_set (Hpc.out.over b5) (by omega)) (by omega)
                  have zqc : SoC 108 2 z l.length (flat 2 (rC m crsRich s (stF crsRich (m.ct (s * 2)) (m.ct (s * 2 + 1))) l) l.length) (.slice qbA l.length qbc) Z := by rw [hZ]; exact soc_set (soc_set (Hqc.out.over b5) (by omega)) (by omega)
                  have zbw : Below tb W Z := by rw [hZ]; exact ((Hbw.out.trans (b5.mono (by omega))).setCell (p := ⟨tb, _, none⟩) (Nat.le_refl _) _).setCell (p := ⟨tb, _, none⟩) (Nat.le_refl _) _
                  have zsz : X3.heap.size ≤ Z.heap.size := by have := b5.size; rw [hZ]; simp; omega
                  have HZ := Lib.hid (And.intro zrow (And.intro zsl (And.intro zpu (And.intro zpc (And.intro zqu (And.intro zqc zbw))))))
                  rw [← hZ]
                  clear hZ oZ zrow zsl zpu zpc zqu zqc zbw b5 hw5 r5 Hrow Hsl Hpu Hpc Hqu Hqc Hbw
                  go_wp2_with fail
                  go_roundw
                  case rel => exact ⟨k + 1, by omega, by go_num, by rw [Hq.out.1], HZ.out.1, by rw [Hq.out.2.1]; exact HZ.out.2.1, HZ.out.2.2.1, HZ.out.2.2.2.1, HZ.out.2.2.2.2.1, HZ.out.2.2.2.2.2.1, HZ.out.2.2.2.2.2.2, zsz⟩
                  case measure => simp [intOf]; omega
                · have e2 : (x.kd == 2) = false := by rw [h2]; rfl
                  have e3 : (x.kd == 3) = true := by simpa using h2
                  clear h2
                  obtain ⟨_, _, he', _, y1, y2⟩ := (HX.out.below ((Hb0.out.trans (Hbw.out.mono (by omega))).mono hB)).by hlt hs
                  obtain ⟨rfl, rfl⟩ := by simpa using he'
                  rw [Hxx.out] at y1 y2
                  clear he'
                  have hfz : fzK l (k + 1) = fzK l k := by rw [fzK, Hxx.out, if_neg (by have := H1.out; omega)]
                  have hsk : slK m l s g (k + 1) = slK m l s g k := by rw [slK, Hxx.out, if_neg (by have := H1.out; omega)]
                  have had : adK l s (k + 1) = ((adK l s k).1 + x.b (s * 2), (adK l s k).2 + x.b (s * 2 + 1)) := by rw [adK, Hxx.out, if_pos H1.out]
                  have hab1 := adK_bd (m := m) (l := l) hs (k + 1) (fun j hj => Hcl.out.2.2 j (by omega))
                  have z1 : Y0.cell? ⟨tb, 8 + s * 2, none⟩ = some (I (adK l s k).1) := by rw [cell_of_row _ _ _ _ _ _ Hrow.out, run_at _ _ _ (by omega), raK_80 HR0.out.1]
                  have z2 : Y0.cell? ⟨tb, 8 + s * 2 + 1, none⟩ = some (I (adK l s k).2) := by rw [cell_of_row _ _ _ _ _ _ Hrow.out, run_at _ _ _ (by omega), raK_81 HR0.out.2]
                  have hra : upd (upd (raK l s R k) (8 + s * 2) ((adK l s k).1 + x.b (s * 2))) (8 + s * 2 + 1) ((adK l s k).2 + x.b (s * 2 + 1)) = raK l s R (k + 1) := raK_add l s (by rw [HR0.out.1, had, Int.zero_add]) (by rw [HR0.out.2, had, Int.zero_add])
                  rw [had] at hab1
                  simp only at hab1
                  obtain ⟨a0, ha0⟩ : ∃ q, (adK l s k).1 = q := ⟨_, rfl⟩
                  obtain ⟨a1, ha1⟩ : ∃ q, (adK l s k).2 = q := ⟨_, rfl⟩
                  rw [ha0, ha1] at hab1 hra
                  rw [ha0] at z1
                  rw [ha1] at z2
                  have w1 : IntKind.i64.wrap (a0 + x.b (s * 2)) = a0 + x.b (s * 2) := IntWalk.i64_in _ (by omega)
                  have w2 : IntKind.i64.wrap (a1 + x.b (s * 2 + 1)) = a1 + x.b (s * 2 + 1) := IntWalk.i64_in _ (by omega)
                  have Hq := Lib.hid (And.intro hfz (And.intro hsk hra))
                  clear ha0 ha1 hab1 hra hfz hsk had
                  go_upto_region 21 with (fail)
                  have p1 := ovr_cell z1
                  have p2 := ovr_cell z2
                  have p3 := ovr_cell y1
                  have p4 := ovr_cell y2
                  clear y1 y2 z1 z2 x0
                  refine wp_region_seq2 32 (fun _ => none) (by kernel_rfl) (by kernel_rfl) (by kernel_rfl) (by kernel_rfl) (by kernel_rfl) ?_
                  simp only [List.take_succ_cons, List.take_zero, List.drop_succ_cons, List.drop_zero]
                  repeat (refine wpG_one rfl rfl rfl ?_; intro K hK; go_big_quiet_op; go_big_quiet_on)
                  refine wpG_nil (fun w5 hw5 hG => ?_)
                  clear hG p1 p2 p3 p4
                  have b5 := hw5.le
                  have r5 := (b5.block tb (by omega)).trans Hrow.out
                  refine wpTailIn_cons Wd.wide (by intro c h; cases h) ?_
                  refine wp_store2 _ _ rfl tb (8 + s * 2) (by simp [Act.eval]) _ _ rfl _ _ r5 (by simp; omega) ?_
                  refine wpTailIn_nil ?_
                  simp only [Act.put]
                  obtain ⟨Z, hZ⟩ : ∃ Z, Z = (w5.setCell ⟨tb, 8 + s * 2, none⟩ (I (a0 + x.b (s * 2)))).setCell ⟨tb, 8 + s * 2 + 1, none⟩ (I (a1 + x.b (s * 2 + 1))) := ⟨_, rfl⟩
                  have oZ : ∀ q, q ≠ tb → Z.heap[q]? = w5.heap[q]? := fun q hq => by rw [hZ]; exact (heap_setCell_other _ _ _ _ hq).trans (heap_setCell_other _ _ _ _ hq)
                  have zrow : Z.heap[tb]? = some (.cells (runArr sl (raK l s R (k + 1))) 35 (0, 0)) := by
                    rw [hZ, ← Hq.out.2.2, ← run_set sl _ (8 + s * 2 + 1) _ (by omega), ← run_set sl _ (8 + s * 2) _ (by omega)]
                    exact rs (rs r5 _ _) _ _
                  have zsl := Hsl.out.row (w' := Z) fun q hq _ hlt' => (oZ q (by have := HnB.out q hq; omega)).trans (b5.block q hlt')
                  have zpu : Z.ownsRow z 3 1 (.slice paA (l.length + 1) pac) (l.length + 1) (flat 1 (rU m crsPoor s (stF crsPoor (m.ct (s * 2)) (m.ct (s * 2 + 1))) l) (l.length + 1)) := by rw [hZ]; exact own_set (own_set (own_below Hpu.out b5) (by omega)) (by omega)
                  have zqu : Z.ownsRow z 3 1 (.slice qaA (l.length + 1) qac) (l.length + 1) (flat 1 (rU m crsRich s (stF crsRich (m.ct (s * 2)) (m.ct (s * 2 + 1))) l) (l.length + 1)) := by rw [hZ]; exact own_set (own_set (own_below Hqu.out b5) (by omega)) (by omega)
                  have zpc : SoC 108 2 z l.length (flat 2 (rC m crsPoor s (stF crsPoor (m.ct (s * 2)) (m.ct (s * 2 + 1))) l) l.length) (.slice pbA l.length pbc) Z := by rw [hZ]; exact soc_set (soc_set (Hpc.out.over b5) (by omega)) (by omega)
                  have zqc : SoC 108 2 z l.length (flat 2 (rC m crsRich s (stF crsRich (m.ct (s * 2)) (m.ct (s * 2 + 1))) l) l.length) (.slice qbA l.length qbc) Z := by rw [hZ]; exact soc_set (soc_set (Hqc.out.over b5) (by omega)) (by omega)
                  have zbw : Below tb W Z := by rw [hZ]; exact ((Hbw.out.trans (b5.mono (by omega))).setCell (p := ⟨tb, _, none⟩) (Nat.le_refl _) _).setCell (p := ⟨tb, _, none⟩) (Nat.le_refl _) _
                  have zsz : X3.heap.size ≤ Z.heap.size := by have := b5.size; rw [hZ]; simp; omega
                  have HZ := Lib.hid (And.intro zrow (And.intro zsl (And.intro zpu (And.intro zpc (And.intro zqu (And.intro zqc zbw))))))
                  rw [← hZ]
                  clear hZ oZ zrow zsl zpu zpc zqu zqc zbw b5 hw5 r5 Hrow Hsl Hpu Hpc Hqu Hqc Hbw
                  go_wp2_with fail
                  go_roundw
                  case rel => exact ⟨k + 1, by omega, by go_num, by rw [Hq.out.1], HZ.out.1, by rw [Hq.out.2.1]; exact HZ.out.2.1, HZ.out.2.2.1, HZ.out.2.2.2.1, HZ.out.2.2.2.2.1, HZ.out.2.2.2.2.2.1, HZ.out.2.2.2.2.2.2, zsz⟩
                  case measure => simp [intOf]; omega
              have h4 : x.kd = 4 := by omega
              have e1 : (x.kd == 1) = false := by simpa using h1
              have e2 : (x.kd == 2) = false := by rw [h4]; rfl
              have e3 : (x.kd == 3) = false := by rw [h4]; rfl
              have hfz : fzK l (k + 1) = fzK l k := by rw [fzK, Hxx.out, if_neg h1]
              have hsk : slK m l s g (k + 1) = slK m l s g k := by rw [slK, Hxx.out, if_neg h1]
              have hra : raK l s R (k + 1) = raK l s R k := by rw [raK, adK, Hxx.out, if_neg h23]; rfl
              have Hq := Lib.hid (And.intro hfz (And.intro hsk hra))
              clear hkx h23 h1 h4 hfz hsk hra
              go_wp2_with fail
              go_roundw
              case rel => exact ⟨k + 1, by omega, by go_num, by rw [Hq.out.1], by rw [Hq.out.2.2]; exact Hrow.out, by rw [Hq.out.2.1]; exact Hsl.out, Hpu.out, Hpc.out, Hqu.out, Hqc.out, Hbw.out, hszY⟩
              case measure => simp [intOf]; omega
            · obtain rfl : k = l.length := by omega
              have hki : decide ((l.length : Int) < (l.length : Int)) = false := decide_eq_false (by omega)
              have kp : decide (0 ≤ (l.length : Int)) = true := decide_eq_true (by omega)
              have kq : decide ((l.length : Int) < (l.length : Int) + 1) = true := decide_eq_true (by omega)
              obtain ⟨b1, o1, rfl, y1⟩ := own_one Hpu.out (show l.length < l.length + 1 by omega)
              obtain ⟨b2, o2, rfl, y2⟩ := own_one Hqu.out (show l.length < l.length + 1 by omega)
              have y1 : Y0.cell? ⟨b1, o1 + l.length, none⟩ = some (I (wkD m crsPoor s (m.ct (s * 2)) l l.length)) := y1
              have y2 : Y0.cell? ⟨b2, o2 + l.length, none⟩ = some (I (wkD m crsRich s (m.ct (s * 2 + 1)) l l.length)) := y2
              have hre := raK_end m l s R
              obtain ⟨wp, hwp⟩ : ∃ q, wkD m crsPoor s (m.ct (s * 2)) l l.length = q := ⟨_, rfl⟩
              obtain ⟨wr', hwr⟩ : ∃ q, wkD m crsRich s (m.ct (s * 2 + 1)) l l.length = q := ⟨_, rfl⟩
              rw [hwp, hwr] at hre
              rw [hwp] at y1
              rw [hwr] at y2
              have Hre := Lib.hid hre
              have p1 := ovr_cell y1
              have p2 := ovr_cell y2
              clear hwp hwr hre y1 y2 Hpu Hpc Hqu Hqc
              go_upto_region 22 with (fail)
              refine wp_region_seq2 15 (fun _ => none) (by kernel_rfl) (by kernel_rfl) (by kernel_rfl) (by kernel_rfl) (by kernel_rfl) ?_
              simp only [List.take_succ_cons, List.take_zero, List.drop_succ_cons, List.drop_zero]
              repeat (refine wpG_one rfl rfl rfl ?_; intro K hK; go_big_quiet_op; go_big_quiet_on)
              refine wpG_nil (fun w5 hw5 hG => ?_)
              clear hG p1 p2
              have b5 := hw5.le
              have r5 := (b5.block tb (by omega)).trans Hrow.out
              refine wpTailIn_cons Wd.wide (by intro c h; cases h) ?_
              refine wp_store2 _ _ rfl tb (2 + s * 2) (by simp [Act.eval]) _ _ rfl _ _ r5 (by simp; omega) ?_
              refine wpTailIn_nil ?_
              simp only [Act.put]
              obtain ⟨Z, hZ⟩ : ∃ Z, Z = (w5.setCell ⟨tb, 2 + s * 2, none⟩ (I wp)).setCell ⟨tb, 2 + s * 2 + 1, none⟩ (I wr') := ⟨_, rfl⟩
              have oZ : ∀ q, q ≠ tb → Z.heap[q]? = w5.heap[q]? := fun q hq => by rw [hZ]; exact (heap_setCell_other _ _ _ _ hq).trans (heap_setCell_other _ _ _ _ hq)
              have zrow : Z.heap[tb]? = some (.cells (runArr sl (rnK m l s R l.length)) 35 (0, 0)) := by
                rw [hZ, ← Hre.out, ← run_set sl _ (2 + s * 2 + 1) _ (by omega), ← run_set sl _ (2 + s * 2) _ (by omega)]
                exact rs (rs r5 _ _) _ _
              have zsl := Hsl.out.row (w' := Z) fun q hq _ hlt' => (oZ q (by have := HnB.out q hq; omega)).trans (b5.block q hlt')
              have zbw : Below tb W Z := by rw [hZ]; exact ((Hbw.out.trans (b5.mono (by omega))).setCell (p := ⟨tb, _, none⟩) (Nat.le_refl _) _).setCell (p := ⟨tb, _, none⟩) (Nat.le_refl _) _
              have zsz : X3.heap.size ≤ Z.heap.size := by have := b5.size; rw [hZ]; simp; omega
              have HZr := Lib.hid zrow
              have HZs := Lib.hid zsl
              have HZb := Lib.hid zbw
              rw [← hZ]
              clear hZ oZ zrow zsl zbw b5 hw5 r5 Hrow Hsl Hbw Hre
              have r0 := (HZb.out.block w.heap.size (by omega)).trans Hr0.out
              have y := fun k (v : Value) (h : (mltArr m)[k]? = some v) => (show Z.cell? ⟨w.heap.size, k, none⟩ = some v by rw [cell_of_row _ _ _ _ _ _ r0]; exact h)
              have y0 := y 0 _ rfl
              have y1 := y 1 _ rfl
              have y2 := y 2 _ rfl
              have y3 := y 3 _ rfl
              have y4 := y 4 _ rfl
              have y5 := y 5 _ rfl
              have y6 := y 6 _ rfl
              clear y r0
              go_wp2_with fail
              refine (course_any m ⟨false,false,true⟩ s l A c B Z hs Hcl.out.2.1 Hcl.out.1 Hcl.out.2.2 (by have := HZb.out.size; omega) (HX.out.below ((Hb0.out.trans (HZb.out.mono (by omega))).mono hB))).mono ?_
              rintro e X4 ⟨u, rfl, hbD, V1, V2, rfl, hv1, hv2⟩
              obtain ⟨raA, rac, rfl, rah1, rah2, _⟩ := Rd.of_own_max hv1
              obtain ⟨rbA, rbc, rfl, rbh1, rbh2, _⟩ := hv2.rd
              have rHU := Lib.hid hv1
              have rHC := Lib.hid hv2
              have rHD := Lib.hid hbD
              have rHT : Hid (Below tb W X4) := HZb.out.trans (hbD.mono (by have := HZb.out.size; omega))
              have rsz := hbD.size
              clear hv1 hv2 hbD y0 y1 y2 y3 y4 y5 y6
              have r0 := (rHT.out.block w.heap.size (by omega)).trans Hr0.out
              have y := fun k (v : Value) (h : (mltArr m)[k]? = some v) => (show X4.cell? ⟨w.heap.size, k, none⟩ = some v by rw [cell_of_row _ _ _ _ _ _ r0]; exact h)
              have y0 := y 0 _ rfl
              have y1 := y 1 _ rfl
              have y2 := y 2 _ rfl
              have y3 := y 3 _ rfl
              have y4 := y 4 _ rfl
              have y5 := y 5 _ rfl
              have y6 := y 6 _ rfl
              clear y r0
              go_wp2_with fail
              refine (course_any m ⟨true,true,false⟩ s l A c B X4 hs Hcl.out.2.1 Hcl.out.1 Hcl.out.2.2 (by have := rHT.out.size; omega) (HX.out.below ((Hb0.out.trans (rHT.out.mono (by omega))).mono hB))).mono ?_
              rintro e X5 ⟨u, rfl, hbD, V1, V2, rfl, hv1, hv2⟩
              obtain ⟨saA, sac, rfl, sah1, sah2, _⟩ := Rd.of_own_max hv1
              obtain ⟨sbA, sbc, rfl, sbh1, sbh2, _⟩ := hv2.rd
              have sHU := Lib.hid hv1
              have sHC := Lib.hid hv2
              have sHD := Lib.hid hbD
              have sHT : Hid (Below tb W X5) := rHT.out.trans (hbD.mono (by have := rHT.out.size; omega))
              have ssz := hbD.size
              clear hv1 hv2 hbD y0 y1 y2 y3 y4 y5 y6
              have hX5 : Below B w X5 := (Hb0.out.trans (sHT.out.mono (by omega))).mono hB
              have hX5s : w.heap.size ≤ X5.heap.size := (Hb0.out.trans (sHT.out.mono (by omega))).size
              have rX := ((rHD.out.trans (sHD.out.mono rHD.out.size)).block tb (by omega)).trans HZr.out
              have slX := HZs.out.row (w' := X5) fun q hq _ hlt' => (rHD.out.trans (sHD.out.mono rHD.out.size)).block q hlt'
              have hub : ∀ c : Crs, ∀ j, j ≤ l.length → 0 ≤ wkD m c s (stF c (m.ct (s * 2)) (m.ct (s * 2 + 1))) l j ∧ wkD m c s (stF c (m.ct (s * 2)) (m.ct (s * 2 + 1))) l j ≤ 300000000000000 := fun c j hj => by
                have hb : bdB m.ct 1000000000000 = true := by have := Hcl.out.1; unfold isM at this; rw [Bool.and_eq_true] at this; exact this.2
                have hm := bdB_at hb hs
                have h0 : 0 ≤ stF c (m.ct (s * 2)) (m.ct (s * 2 + 1)) ∧ stF c (m.ct (s * 2)) (m.ct (s * 2 + 1)) ≤ 1000000000000 := by
                  unfold stF
                  split
                  · exact ⟨by omega, hm.2.2⟩
                  · exact ⟨hm.1, by omega⟩
                have h1 := wk_bd (m := m) (c := c) (l := l) hs h0 j fun i hi => Hcl.out.2.2 i (by omega)
                have h2 := Hcl.out.2.1
                omega
              have hl1 := lost_any l (wkD m ⟨false,false,true⟩ s (stF ⟨false,false,true⟩ (m.ct (s * 2)) (m.ct (s * 2 + 1))) l) 1 A raA c rac X5.heap.size X5 Hcl.out.2.1 (hub ⟨false,false,true⟩) (Nat.le_refl _) ((HX.out.below hX5).more (by omega)) (rd_own (own_below rHU.out sHD.out))
              have HL2 : Hid (∀ XE, Below X5.heap.size X5 XE → Calls Tryd.prog 47 #[.slice A l.length c, .slice saA (l.length + 1) sac, .int .u8 1] XE fun e w'' => e = .returned (I (lsK l (wkD m ⟨true,true,false⟩ s (stF ⟨true,true,false⟩ (m.ct (s * 2)) (m.ct (s * 2 + 1))) l) 1 l.length)) ∧ Below XE.heap.size XE w'') := fun XE hXE => lost_any l _ 1 A saA c sac X5.heap.size XE Hcl.out.2.1 (hub ⟨true,true,false⟩) hXE.size (((HX.out.below hX5).below (hXE.mono (by omega))).more (by omega)) ((rd_own sHU.out).below hXE)
              have e1 : lsK l (wkD m ⟨false,false,true⟩ s (stF ⟨false,false,true⟩ (m.ct (s * 2)) (m.ct (s * 2 + 1))) l) 1 l.length = (tlF m ⟨false,false,true⟩ s l).1 := (ls_tl m ⟨false,false,true⟩ s _ l _).1
              have e2 : lsK l (wkD m ⟨true,true,false⟩ s (stF ⟨true,true,false⟩ (m.ct (s * 2)) (m.ct (s * 2 + 1))) l) 1 l.length = (tlF m ⟨true,true,false⟩ s l).1 := (ls_tl m ⟨true,true,false⟩ s _ l _).1
              rw [e1] at hl1
              rw [e2] at HL2
              have HL1 := Lib.hid hl1
              have HrX := Lib.hid rX
              have HsX := Lib.hid slX
              clear hl1 e1 e2 hub rX slX
              obtain ⟨v1, hv1⟩ : ∃ q, (tlF m ⟨false,false,true⟩ s l).1 = q := ⟨_, rfl⟩
              obtain ⟨v2, hv2⟩ : ∃ q, (tlF m ⟨true,true,false⟩ s l).1 = q := ⟨_, rfl⟩
              rw [hv1] at HL1
              rw [hv2] at HL2
              have Hv := Lib.hid (And.intro hv1 hv2)
              clear hv1 hv2
              go_wp2_with fail
              refine HL1.out.mono ?_
              rintro e XE ⟨rfl, hbE⟩
              have HbE := Lib.hid hbE
              clear hbE
              go_wp2_with fail
              refine (HL2.out XE HbE.out).mono ?_
              rintro e XF ⟨rfl, hbF⟩
              have bXF : Below X5.heap.size X5 XF := HbE.out.trans (hbF.mono HbE.out.size)
              have RF := Lib.hid ((bXF.block tb (Array.getElem?_eq_some_iff.1 HrX.out).1).trans HrX.out)
              have SF := Lib.hid (HsX.out.row (w' := XF) fun q hq _ hlt' => bXF.block q hlt')
              have BF : Hid (Below tb W XF) := sHT.out.trans (bXF.mono (by have := sHT.out.size; omega))
              have sF := bXF.size
              clear hbF bXF HL1 HL2 HrX HsX
              go_upto_region 26 with (refine wpList_store2 rfl _ _ rfl tb (14 + s * 2) (by simp [Act.eval]) _ _ rfl _ _ RF.out (by simp; omega) ?_)
              refine name_w fun Z2 hZ => ?_
              have zrow : Z2.heap[tb]? = some (.cells (runArr sl (upd (upd (rnK m l s R l.length) (14 + s * 2) v1) (14 + s * 2 + 1) v2)) 35 (0, 0)) := by
                rw [hZ, ← run_set sl _ (14 + s * 2 + 1) _ (by omega), ← run_set sl _ (14 + s * 2) _ (by omega)]
                exact rs (rs RF.out _ _) _ _
              have zsl := SF.out.row (w' := Z2) fun q hq _ _ => by rw [hZ]; exact (heap_setCell_other _ _ _ _ (by have := HnB.out q hq; show q ≠ tb; omega)).trans (heap_setCell_other _ _ _ _ (by have := HnB.out q hq; show q ≠ tb; omega))
              have zbw : Below tb W Z2 := by rw [hZ]; exact (BF.out.setCell (p := ⟨tb, _, none⟩) (Nat.le_refl _) _).setCell (p := ⟨tb, _, none⟩) (Nat.le_refl _) _
              have Z2s : X3.heap.size ≤ Z2.heap.size := by rw [hZ]; simp; omega
              rw [Hv.out.1.symm, Hv.out.2.symm] at zrow
              have Z2r := Lib.hid zrow
              have Z2l := Lib.hid zsl
              have Z2b := Lib.hid zbw
              clear hZ zrow zsl zbw RF SF BF sF Hv
              simp only [Act.put]
              obtain ⟨R4, hR4⟩ : ∃ q, upd (upd (rnK m l s R l.length) (14 + s * 2) (tlF m ⟨false, false, true⟩ s l).1) (14 + s * 2 + 1) (tlF m ⟨true, true, false⟩ s l).1 = q := ⟨_, rfl⟩
              rw [hR4] at Z2r
              have HR4 := Lib.hid hR4
              clear hR4
              have r0 := (Z2b.out.block w.heap.size (by omega)).trans Hr0.out
              have y := fun k (v : Value) (h : (mltArr m)[k]? = some v) => (show Z2.cell? ⟨w.heap.size, k, none⟩ = some v by rw [cell_of_row _ _ _ _ _ _ r0]; exact h)
              have y0 := y 0 _ rfl
              have y1 := y 1 _ rfl
              have y2 := y 2 _ rfl
              have y3 := y 3 _ rfl
              have y4 := y 4 _ rfl
              have y5 := y 5 _ rfl
              have y6 := y 6 _ rfl
              clear y r0
              go_wp2_with fail
              refine (course_any m ⟨false,true,false⟩ s l A c B Z2 hs Hcl.out.2.1 Hcl.out.1 Hcl.out.2.2 (by have := Z2b.out.size; omega) (HX.out.below ((Hb0.out.trans (Z2b.out.mono (by omega))).mono hB))).mono ?_
              rintro e X6 ⟨u, rfl, hbD, V1, V2, rfl, hv1, hv2⟩
              obtain ⟨taA, tac, rfl, tah1, tah2, _⟩ := Rd.of_own_max hv1
              obtain ⟨tbA, tbc, rfl, tbh1, tbh2, _⟩ := hv2.rd
              have tHU := Lib.hid hv1
              have tHC := Lib.hid hv2
              have tHD := Lib.hid hbD
              have tHT : Hid (Below tb W X6) := Z2b.out.trans (hbD.mono (by have := Z2b.out.size; omega))
              have tsz := hbD.size
              clear hv1 hv2 hbD y0 y1 y2 y3 y4 y5 y6
              have r0 := (tHT.out.block w.heap.size (by omega)).trans Hr0.out
              have y := fun k (v : Value) (h : (mltArr m)[k]? = some v) => (show X6.cell? ⟨w.heap.size, k, none⟩ = some v by rw [cell_of_row _ _ _ _ _ _ r0]; exact h)
              have y0 := y 0 _ rfl
              have y1 := y 1 _ rfl
              have y2 := y 2 _ rfl
              have y3 := y 3 _ rfl
              have y4 := y 4 _ rfl
              have y5 := y 5 _ rfl
              have y6 := y 6 _ rfl
              clear y r0
              go_wp2_with fail
              refine (course_any m ⟨true,false,true⟩ s l A c B X6 hs Hcl.out.2.1 Hcl.out.1 Hcl.out.2.2 (by have := tHT.out.size; omega) (HX.out.below ((Hb0.out.trans (tHT.out.mono (by omega))).mono hB))).mono ?_
              rintro e X7 ⟨u, rfl, hbD, V1, V2, rfl, hv1, hv2⟩
              obtain ⟨vaA, vac, rfl, vah1, vah2, _⟩ := Rd.of_own_max hv1
              obtain ⟨vbA, vbc, rfl, vbh1, vbh2, _⟩ := hv2.rd
              have vHU := Lib.hid hv1
              have vHC := Lib.hid hv2
              have vHD := Lib.hid hbD
              have vHT : Hid (Below tb W X7) := tHT.out.trans (hbD.mono (by have := tHT.out.size; omega))
              have vsz := hbD.size
              clear hv1 hv2 hbD y0 y1 y2 y3 y4 y5 y6
              have hX5 : Below B w X7 := (Hb0.out.trans (vHT.out.mono (by omega))).mono hB
              have hX5s : w.heap.size ≤ X7.heap.size := (Hb0.out.trans (vHT.out.mono (by omega))).size
              have rX := ((tHD.out.trans (vHD.out.mono tHD.out.size)).block tb (by omega)).trans Z2r.out
              have slX := Z2l.out.row (w' := X7) fun q hq _ hlt' => (tHD.out.trans (vHD.out.mono tHD.out.size)).block q hlt'
              have hub : ∀ c : Crs, ∀ j, j ≤ l.length → 0 ≤ wkD m c s (stF c (m.ct (s * 2)) (m.ct (s * 2 + 1))) l j ∧ wkD m c s (stF c (m.ct (s * 2)) (m.ct (s * 2 + 1))) l j ≤ 300000000000000 := fun c j hj => by
                have hb : bdB m.ct 1000000000000 = true := by have := Hcl.out.1; unfold isM at this; rw [Bool.and_eq_true] at this; exact this.2
                have hm := bdB_at hb hs
                have h0 : 0 ≤ stF c (m.ct (s * 2)) (m.ct (s * 2 + 1)) ∧ stF c (m.ct (s * 2)) (m.ct (s * 2 + 1)) ≤ 1000000000000 := by
                  unfold stF
                  split
                  · exact ⟨by omega, hm.2.2⟩
                  · exact ⟨hm.1, by omega⟩
                have h1 := wk_bd (m := m) (c := c) (l := l) hs h0 j fun i hi => Hcl.out.2.2 i (by omega)
                have h2 := Hcl.out.2.1
                omega
              have hl1 := lost_any l (wkD m ⟨false,true,false⟩ s (stF ⟨false,true,false⟩ (m.ct (s * 2)) (m.ct (s * 2 + 1))) l) 4 A taA c tac X7.heap.size X7 Hcl.out.2.1 (hub ⟨false,true,false⟩) (Nat.le_refl _) ((HX.out.below hX5).more (by omega)) (rd_own (own_below tHU.out vHD.out))
              have HL2 : Hid (∀ XE, Below X7.heap.size X7 XE → Calls Tryd.prog 47 #[.slice A l.length c, .slice vaA (l.length + 1) vac, .int .u8 4] XE fun e w'' => e = .returned (I (lsK l (wkD m ⟨true,false,true⟩ s (stF ⟨true,false,true⟩ (m.ct (s * 2)) (m.ct (s * 2 + 1))) l) 4 l.length)) ∧ Below XE.heap.size XE w'') := fun XE hXE => lost_any l _ 4 A vaA c vac X7.heap.size XE Hcl.out.2.1 (hub ⟨true,false,true⟩) hXE.size (((HX.out.below hX5).below (hXE.mono (by omega))).more (by omega)) ((rd_own vHU.out).below hXE)
              have e1 : lsK l (wkD m ⟨false,true,false⟩ s (stF ⟨false,true,false⟩ (m.ct (s * 2)) (m.ct (s * 2 + 1))) l) 4 l.length = (tlF m ⟨false,true,false⟩ s l).2 := (ls_tl m ⟨false,true,false⟩ s _ l _).2
              have e2 : lsK l (wkD m ⟨true,false,true⟩ s (stF ⟨true,false,true⟩ (m.ct (s * 2)) (m.ct (s * 2 + 1))) l) 4 l.length = (tlF m ⟨true,false,true⟩ s l).2 := (ls_tl m ⟨true,false,true⟩ s _ l _).2
              rw [e1] at hl1
              rw [e2] at HL2
              have HL1 := Lib.hid hl1
              have HrX := Lib.hid rX
              have HsX := Lib.hid slX
              clear hl1 e1 e2 hub rX slX
              obtain ⟨v1, hv1⟩ : ∃ q, (tlF m ⟨false,true,false⟩ s l).2 = q := ⟨_, rfl⟩
              obtain ⟨v2, hv2⟩ : ∃ q, (tlF m ⟨true,false,true⟩ s l).2 = q := ⟨_, rfl⟩
              rw [hv1] at HL1
              rw [hv2] at HL2
              have Hv := Lib.hid (And.intro hv1 hv2)
              clear hv1 hv2
              go_wp2_with fail
              refine HL1.out.mono ?_
              rintro e XE ⟨rfl, hbE⟩
              have HbE := Lib.hid hbE
              clear hbE
              go_wp2_with fail
              refine (HL2.out XE HbE.out).mono ?_
              rintro e XF ⟨rfl, hbF⟩
              have bXF : Below X7.heap.size X7 XF := HbE.out.trans (hbF.mono HbE.out.size)
              have RF := Lib.hid ((bXF.block tb (Array.getElem?_eq_some_iff.1 HrX.out).1).trans HrX.out)
              have SF := Lib.hid (HsX.out.row (w' := XF) fun q hq _ hlt' => bXF.block q hlt')
              have BF : Hid (Below tb W XF) := vHT.out.trans (bXF.mono (by have := vHT.out.size; omega))
              have sF := bXF.size
              clear hbF bXF HL1 HL2 HrX HsX
              go_upto_region 10 with (refine wpList_store2 rfl _ _ rfl tb (20 + s * 2) (by simp [Act.eval]) _ _ rfl _ _ RF.out (by simp; omega) ?_)
              refine name_w fun Z3 hZ => ?_
              have zrow : Z3.heap[tb]? = some (.cells (runArr sl (upd (upd R4 (20 + s * 2) v1) (20 + s * 2 + 1) v2)) 35 (0, 0)) := by
                rw [hZ, ← run_set sl _ (20 + s * 2 + 1) _ (by omega), ← run_set sl _ (20 + s * 2) _ (by omega)]
                exact rs (rs RF.out _ _) _ _
              have zsl := SF.out.row (w' := Z3) fun q hq _ _ => by rw [hZ]; exact (heap_setCell_other _ _ _ _ (by have := HnB.out q hq; show q ≠ tb; omega)).trans (heap_setCell_other _ _ _ _ (by have := HnB.out q hq; show q ≠ tb; omega))
              have zbw : Below tb W Z3 := by rw [hZ]; exact (BF.out.setCell (p := ⟨tb, _, none⟩) (Nat.le_refl _) _).setCell (p := ⟨tb, _, none⟩) (Nat.le_refl _) _
              have Z3s : X3.heap.size ≤ Z3.heap.size := by rw [hZ]; simp; omega
              rw [Hv.out.1.symm, Hv.out.2.symm] at zrow
              have Z3r := Lib.hid zrow
              have Z3l := Lib.hid zsl
              have Z3b := Lib.hid zbw
              clear hZ zrow zsl zbw RF SF BF sF Hv
              simp only [Act.put]
              have hRs : upd (upd R4 (20 + s * 2) (tlF m ⟨false, true, false⟩ s l).2) (20 + s * 2 + 1) (tlF m ⟨true, false, true⟩ s l).2 = prRk m l (s + 1) := by
                rw [← HR4.out]
                show _ = rnF m l s (prRk m l s)
                rw [HRg.out.1]
                rfl
              have hGs : slK m l s g l.length = prSk m l (s + 1) := by
                show _ = slK m l s (prSk m l s) l.length
                rw [HRg.out.2]
              rw [hRs] at Z3r
              rw [hGs] at Z3l
              clear hRs hGs
              go_wp2_with fail
              go_roundw
              case rel => exact ⟨s + 1, by omega, by go_num, Z3r.out, Z3l.out, Z3b.out, by omega⟩
              case measure => simp [intOf]; omega
        · obtain rfl : s = 3 := by omega
          have r4 := (HbC.out.block (w.heap.size + 1) (by omega)).trans Hr1.out
          have HR4 := Lib.hid r4
          clear r4
          go_wp2_with first | (refine wpList_load_row rfl 35 _ rfl tb rfl _ _ _ _ Hrow1.out Tryd.underlying35 rfl (by kernel_rfl) ?_) | (refine wpList_store_row rfl 35 _ _ rfl (w.heap.size + 1) rfl _ _ HR4.out (runArr sl (prRk m l 3)) rfl (run_one (by rw [HSL.out.1]; rfl)) rfl (by kernel_rfl) ?_)
          refine bodyPost_ret (results_cell_only rfl _ _ (w.heap.size + 1) 35 _ (0, 0) _ rfl (setRow_same HR4.out) Tryd.underlying35 rfl (by kernel_rfl)) rfl ?_
          have hsl := HSL.out
          have h6 := Hsl1.out.row (w' := X1.setRow (w.heap.size + 1) (runArr sl (prRk m l 3))) fun q hq _ _ => setRow_other (by have := HnB.out q hq; omega)
          rw [hsl.1] at h6
          refine ⟨_, rfl, below_setRow (Hb0.out.trans (HbC.out.mono (by omega))) (by omega) _, sA, sc, by rw [← hsl.1], hsl.2.1, hsl.2.2, ?_⟩
          rw [hsl.1]
          exact h6.more (Nat.zero_le _)
end Go.Proofs.YtfifdfagikbahaaDoor
