/- The contract of Predict of package melt. -/
import Derived.Test.YtnkaoplgmglijaaDoorNa
import Derived.Test.YtnkaoplgmglijaaDoorMw
namespace Go.Proofs.YtnkaoplgmglijaaDoor
open Go.RowKit
attribute [local go_sem] Oper.semAt_some
def frz (l : List Stp) : List Stp := l.filter fun x => x.kd == 1
theorem frz_take (l : List Stp) : ∀ k, k ≤ l.length → ((frz (l.take k)).length = fzK l k)
 | 0, _ => rfl
 | k + 1, h => by
   have ih := frz_take l k (by omega)
   have e : l.take (k + 1) = l.take k ++ [at0 l k] := by
     rw [List.take_add_one, List.getElem?_eq_getElem (by omega), at0_get (by omega)]; rfl
   rw [fzK, e, frz, List.filter_append, List.length_append]
   have ih' : (List.filter (fun x => x.kd == 1) (List.take k l)).length = fzK l k := ih
   rw [ih']
   by_cases h1 : (at0 l k).kd = 1
   · rw [if_pos h1]; simp [List.filter, h1]
   · have e1 : ((at0 l k).kd == 1) = false := by simpa using h1
     rw [if_neg h1]; simp [List.filter, e1]
theorem frz_at {l : List Stp} {k : Nat} (h : k < l.length) (h1 : (at0 l k).kd = 1) : fzK l k < (frz l).length ∧ at0 (frz l) (fzK l k) = at0 l k := by
 have hd : l.drop k = at0 l k :: l.drop (k + 1) := by rw [List.drop_eq_getElem_cons h, at0_get h]
 have e : frz l = frz (l.take k) ++ at0 l k :: frz (l.drop (k + 1)) := by
  have : l = l.take k ++ at0 l k :: l.drop (k + 1) := by rw [← hd, List.take_append_drop]
  conv => lhs; rw [this]
  simp [frz, List.filter_append, h1]
 have hl := frz_take l k (by omega)
 have hlt : fzK l k < (frz l).length := by rw [e, List.length_append, List.length_cons, hl]; omega
 refine ⟨hlt, ?_⟩
 have h2 : (frz l)[fzK l k]? = some (at0 l k) := by
  rw [e, List.getElem?_append_right (by omega), hl, Nat.sub_self]; rfl
 rw [at0, List.getD_eq_getElem?_getD, h2]; rfl
theorem frz_len (l : List Stp) : (frz l).length = fzK l l.length := by
 have := frz_take l l.length (Nat.le_refl _)
 rwa [List.take_length] at this
def gI (l : List Stp) (i j : Nat) : Int := if j = 0 then (at0 (frz l) i).ms else 0
abbrev gM (l : List Stp) (i j : Nat) : Value := I (gI l i j)
def rIni (m : Mlt) (ms : Int) (j : Nat) : Int := if j = 1 then ms else if 2 ≤ j ∧ j ≤ 7 then m.ct (j - 2) else 0
theorem rIni_set (m : Mlt) (a b : Int) : upd (rIni m a) 1 b = rIni m b := by
 funext j
 unfold upd rIni
 split <;> rfl
theorem run_one {sl : Value} {R : Nat → Int} (h : sl.oneCell' = true) : ∀ v ∈ (runArr sl R).toList, v.oneCell' = true := by
 intro v hv
 simp only [List.mem_cons, List.not_mem_nil, or_false] at hv
 rcases hv with rfl | rfl | rfl | rfl | rfl | rfl | rfl | rfl | rfl | rfl | rfl | rfl | rfl | rfl | rfl | rfl | rfl | rfl | rfl | rfl | rfl | rfl | rfl | rfl | rfl | rfl
 · exact h
 all_goals rfl
def prRk (m : Mlt) (l : List Stp) : Nat → Nat → Int
 | 0 => rIni m (msK m l l.length)
 | s + 1 => rnF m l s (prRk m l s)
def prSk (m : Mlt) (l : List Stp) : Nat → Nat → Nat → Int
 | 0 => gI l
 | s + 1 => slK m l s (prSk m l s) l.length
abbrev prR (m : Mlt) (l : List Stp) : Nat → Int := prRk m l 3
abbrev prS (m : Mlt) (l : List Stp) : Nat → Nat → Int := prSk m l 3
theorem rnF_other {m : Mlt} {l : List Stp} {s : Nat} {R : Nat → Int} {j : Nat} (h : j ≠ 2 + s * 2 ∧ j ≠ 2 + s * 2 + 1 ∧ j ≠ 8 + s * 2 ∧ j ≠ 8 + s * 2 + 1 ∧ j ≠ 14 + s * 2 ∧ j ≠ 14 + s * 2 + 1 ∧ j ≠ 20 + s * 2 ∧ j ≠ 20 + s * 2 + 1) : rnF m l s R j = R j := by
 obtain ⟨h1, h2, h3, h4, h5, h6, h7, h8⟩ := h
 simp only [rnF, rnK, upd, if_neg h1, if_neg h2, if_neg h3, if_neg h4, if_neg h5, if_neg h6, if_neg h7, if_neg h8]
theorem prRk_zero {m : Mlt} {l : List Stp} {j : Nat} : ∀ s, s ≤ 3 → 8 + s * 2 ≤ j ∧ j < 14 → prRk m l s j = 0
 | 0, _, h => by
   show rIni m _ j = 0
   unfold rIni
   rw [if_neg (by omega), if_neg (by omega)]
 | s + 1, hs, h => by
   rw [prRk, rnF_other (by omega)]
   exact prRk_zero s (by omega) (by omega)
theorem SlIn.more {w : World} {B B' n : Nat} {v : Value} {g : Nat → Nat → Int} (h : SlIn B w v n g) (hB : B' ≤ B) : SlIn B' w v n g := by
 rcases h with h | ⟨b, c, cs, h0, h1, h2, h3⟩
 · exact .inl h
 · exact .inr ⟨b, c, cs, h0, by omega, h2, h3⟩
theorem SlIn.more' {w : World} {B B' n : Nat} {v : Value} {g : Nat → Nat → Int} (h : SlIn B w v n g) (hB : ∀ q, v.ownBlock = some q → B' ≤ q) : SlIn B' w v n g := by
 rcases h with h | ⟨b, c, cs, h0, h1, h2, h3⟩
 · exact .inl h
 · exact .inr ⟨b, c, cs, h0, hB b (by rw [h0]; rfl), h2, h3⟩
theorem SlIn.of_own {w : World} {B n : Nat} {v : Value} {l : List Stp} (h : w.ownsRow B 50 7 v n (flat 7 (gM l) n)) : SlIn B w v n (gI l) := by
 rcases h.2 with ⟨rfl, rfl⟩ | ⟨q, cap, cur, rfl, hq, hh, hn, hc, hsz, ht⟩
 · exact .inl rfl
 · refine .inr ⟨q, cap, cur, rfl, hq, hh, fun k j hk hj => ?_⟩
   have e := flat_get (gM l) hk hj
   rw [← ht, List.getElem?_take, if_pos (idx_lt hk hj)] at e
   simpa using e
theorem SlIn.rd {B : Nat} {w : World} {a : Option Addr} {nf c : Nat} {g : Nat → Nat → Int} (h : SlIn B w (.slice a nf c) nf g) : Rd w w.heap.size 7 a nf (fun i j => I (g i j)) := by
 intro hn
 rcases h with h | ⟨b, c', cs, he, _, h2, h3⟩
 · omega
 · cases he
   refine ⟨b, 0, rfl, (Array.getElem?_eq_some_iff.1 h2).1, fun k hk j hj => ?_⟩
   rw [cell_of_row _ _ _ _ _ _ h2, Nat.zero_add]
   exact h3 k j hk hj
theorem frz_info : (Tryd.prog.info? 50).map (fun i => (i.zero, i.size, i.bytes)) = some (some (.agg #[I 0, I 0, I 0, I 0, I 0, I 0, I 0]), 7, 56) := by kernel_rfl
theorem wpList_load_row {P : Program} {ops : Array Oper} {rest : List Oper} {o : Oper} {a : Act} {w : World} {Q : Exit → Act → World → Prop} (hgd : o.guard = none) (ty : TypeId) (x : Operand) (ho : o.op = .load ty x)
 (g : Nat) (hx : a.eval x = .pointer (some ⟨g, 0, none⟩)) (cs : Array Value) (t : TypeId) (fr : Nat × Nat) (d : TypeDesc) (hg : w.heap[g]? = some (.cells cs t fr))
 (hu : P.underlying ty = some d) (hd : (match d with | .struct _ | .array _ _ => true | _ => false) = true) (hi : (P.info? ty).map (·.size) = some cs.size)
 (h : wpList P ops Q rest (a.put o.dst (.agg cs)) w) : wpList P ops Q (o :: rest) a w := by
 refine wpList_plain hgd fun _ hK => ?_
 have hrun := run_loadVar_row (P := P) w g t ty cs fr d hg hu hd hi
 unfold Oper.wp execOp
 simp only [ho, hx, Instr.loadAt, Instr.sureAddr, Sem.run_bind, Sem.run_pure, Result.andThen_ok, hrun]
 exact hK _ _ h
theorem own_set {w : World} {base sz n tb i : Nat} {e : TypeId} {v u : Value} {xs : List Value} (h : w.ownsRow base e sz v n xs) (hb : tb < base) : (w.setCell ⟨tb, i, none⟩ u).ownsRow base e sz v n xs := by
 obtain ⟨h1, h2⟩ := h
 refine ⟨h1, ?_⟩
 rcases h2 with h2 | ⟨g, cap, cur, hv, hg, hh, r⟩
 · exact .inl h2
 · exact .inr ⟨g, cap, cur, hv, hg, ro hh (by omega), r⟩
theorem name_w {P : Program} {c : Code} {Q : Exit → Act → World → Prop} {a : Act} {w : World} (h : ∀ V, V = w → c.wp P Q a V) : c.wp P Q a w := h w rfl
theorem own_type {w : World} {base sz n g : Nat} {e t : TypeId} {v : Value} {xs : List Value} {cs : Array Value} (h : w.ownsRow base e sz v n xs) (hg : v.ownBlock = some g) (hc : w.heap[g]? = some (.cells cs t (0, 0))) : t = e := by
 rcases h.2 with ⟨rfl, _⟩ | ⟨q, cap, cur, rfl, _, hh, _⟩
 · cases hg
 · cases hg
   rw [hh] at hc
   injection hc with hc
   injection hc with _ h2 _
   exact h2.symm
theorem rIni_arr (sl : Value) (m : Mlt) (a : Int) : runArr sl (rIni m a) = #[sl, I a, I (m.ct 0), I (m.ct 1), I (m.ct 2), I (m.ct 3), I (m.ct 4), I (m.ct 5), I 0, I 0, I 0, I 0, I 0, I 0, I 0, I 0, I 0, I 0, I 0, I 0, I 0, I 0, I 0, I 0, I 0, I 0] := by rfl
theorem ckK_ok {m : Mlt} {l : List Stp} : ∀ n, ckK m l n = 0 → ∀ j, j < n → stE m l j = 0
 | 0, _, j, hj => absurd hj (by omega)
 | n + 1, h, j, hj => by
   rw [ckK] at h
   split at h
   · rename_i h0
     rcases Nat.lt_or_ge j n with hj' | hj'
     · exact ckK_ok n h0 j hj'
     · obtain rfl : j = n := by omega
       exact h
   · rename_i h0; exact absurd h h0
theorem ckF_ok {m : Mlt} {l : List Stp} (h : ckF m l = 0) : isM m = true ∧ l.length ≤ 200 ∧ ∀ j, j < l.length → stE m l j = 0 := by
 unfold ckF at h
 split at h
 · exact absurd h (by decide)
 · rename_i h1
   split at h
   · exact absurd h (by decide)
   · exact ⟨by simpa using h1, by omega, ckK_ok _ h⟩
set_option maxRecDepth 100000 in
set_option maxHeartbeats 4000000 in
theorem predict_any (m : Mlt) (A : Option Addr) (c : Nat) (l : List Stp) (w : World) (B : Nat) (hG : Glob w) (h3 : 3 ≤ B) (hB : B ≤ w.heap.size) (hx : Rd w B 8 A l.length (rT l)) (hk : ∀ j, j < l.length → 0 ≤ (at0 l j).kd ∧ (at0 l j).kd ≤ 255) (hn : l.length ≤ maxLen) :
 Calls Tryd.prog 7 #[.agg (mltArr m), .slice A l.length c] w fun e w' => Below w.heap.size w w' ∧ ((ckF m l ≠ 0 ∧ e = .returned (.tuple #[.agg (runArr (.slice none 0 0) fun _ => 0), I (ckF m l)])) ∨
  (ckF m l = 0 ∧ ∃ S d, e = .returned (.tuple #[.agg (runArr (.slice S (fzK l l.length) d) (prR m l)), I 0]) ∧ fzK l l.length ≤ d ∧ d ≤ maxLen ∧ SlIn w.heap.size w' (.slice S (fzK l l.length) d) (fzK l l.length) (prS m l))) := by
 obtain ⟨W, hW⟩ : ∃ W, W = (w.alloc (.cells (mltArr m) 27)).alloc (.cells (runArr (.slice none 0 0) fun _ => 0) 36) := ⟨_, rfl⟩
 have hb0 : Below w.heap.size w W := by rw [hW]; exact ((Below.refl _ _).alloc (Nat.le_refl _) _).alloc (by simp) _
 have r0 : W.heap[w.heap.size]? = some (.cells (mltArr m) 27 (0, 0)) := by rw [hW]; exact heap_before (heap_last _ _ _ rfl)
 have r1 : W.heap[w.heap.size + 1]? = some (.cells (runArr (.slice none 0 0) fun _ => 0) 36 (0, 0)) := by rw [hW]; exact heap_last _ _ _ (by simp)
 have sW : w.heap.size + 2 = W.heap.size := by rw [hW]; simp
 have HW := Lib.hid hW
 have Hb0 := Lib.hid hb0
 have Hr0 := Lib.hid r0
 have Hr1 := Lib.hid r1
 have HG := Lib.hid hG
 have HX := Lib.hid hx
 have Hk := Lib.hid hk
 have Hn := Lib.hid hn
 have y := fun k (v : Value) (h : (mltArr m)[k]? = some v) => (show W.cell? ⟨w.heap.size, k, none⟩ = some v by rw [cell_of_row _ _ _ _ _ _ r0]; exact h)
 have y0 := y 0 _ rfl
 have y1 := y 1 _ rfl
 have y2 := y 2 _ rfl
 have y3 := y 3 _ rfl
 have y4 := y 4 _ rfl
 have y5 := y 5 _ rfl
 have y6 := y 6 _ rfl
 clear y hW hb0 r0 r1 hG hx hk hn
 go_enter Tryd.func7, Tryd.ntmps7
 go_upto_region 1 with (fail)
 rw [← HW.out]
 go_wp2_with fail
 refine (check_any m A c l W B (HG.out.below Hb0.out) (by omega) (HX.out.below (Hb0.out.mono hB)) Hk.out Hn.out).mono ?_
 rintro e w1 ⟨rfl, hb1⟩
 have R0 := (hb1.block w.heap.size (by omega)).trans Hr0.out
 have R1 := (hb1.block (w.heap.size + 1) (by omega)).trans Hr1.out
 have HB1 : Hid (Below w.heap.size w w1) := Hb0.out.trans (hb1.mono (by omega))
 have hs1 := hb1.size
 have HR0 := Lib.hid R0
 have HR1 := Lib.hid R1
 clear hb1 y0 y1 y2 y3 y4 y5 y6
 by_cases hck : ckF m l = 0
 · rw [hck]
   have Hck := Lib.hid hck
   have Hcl : Hid (isM m = true ∧ l.length ≤ 200 ∧ ∀ j, j < l.length → stE m l j = 0) := ckF_ok hck
   have y := fun k (v : Value) (h : (mltArr m)[k]? = some v) => (show w1.cell? ⟨w.heap.size, k, none⟩ = some v by rw [cell_of_row _ _ _ _ _ _ R0]; exact h)
   have y0 := y 0 _ rfl
   have y1 := y 1 _ rfl
   have y2 := y 2 _ rfl
   have y3 := y 3 _ rfl
   have y4 := y 4 _ rfl
   have y5 := y 5 _ rfl
   have y6 := y 6 _ rfl
   clear hck R0 y
   go_upto_region 5 with (refine wpList_store_row rfl 36 _ _ rfl w1.heap.size rfl _ _ (heap_last w1 (.cells (runArr (.slice none 0 0) fun _ => 0) 36) _ rfl) (runArr (.slice none 0 0) (rIni m m.ms)) (congrArg Value.agg (rIni_arr (.slice none 0 0) m m.ms).symm) (run_one rfl) rfl (by kernel_rfl) ?_)
   refine name_w fun V hV0 => ?_
   obtain ⟨tb, htb⟩ : ∃ q, w1.heap.size = q := ⟨_, rfl⟩
   have hV : V = (w1.alloc (.cells (runArr (.slice none 0 0) fun _ => 0) 36)).setRow tb (runArr (.slice none 0 0) (rIni m m.ms)) := by rw [← htb]; exact hV0
   clear hV0
   rw [htb]
   have rt : V.heap[tb]? = some (.cells (runArr (.slice none 0 0) (rIni m m.ms)) 36 (0, 0)) := by rw [hV]; exact setRow_same (heap_last _ _ _ htb.symm)
   have bV : Below w1.heap.size w1 V := by rw [hV]; exact below_setRow ((Below.refl _ _).alloc (Nat.le_refl _) _) (by omega) _
   have sV : V.heap.size = tb + 1 := by rw [hV, setRow_size]; simp [htb]
   simp only [Act.put]
   have HV1 := Lib.hid bV
   have HtV := Lib.hid rt
   obtain ⟨i0, hi0, iz0, iz1, iz2⟩ := info_parts frz_info
   clear hV rt bV y0 y1 y2 y3 y4 y5 y6
   go_wp2_with fail
   go_loopw [22] (fun i wr => ∃ (k : Nat) (sl : Value), k ≤ l.length ∧ i = .int .i64 k ∧ wr.ownsRow (tb + 1) 50 7 sl (fzK l k) (flat 7 (gM l) (fzK l k)) ∧ wr.heap[tb]? = some (.cells (runArr sl (rIni m (msK m l k))) 36 (0, 0)) ∧ Below w1.heap.size w1 wr ∧ tb + 1 ≤ wr.heap.size) (fun i _ => l.length - (intOf i).toNat)
   case atStart => exact ⟨0, .slice none 0 0, by omega, rfl, ⟨rfl, .inl ⟨rfl, rfl⟩⟩, HtV.out, HV1.out, by omega⟩
   case round =>
    rename World => X0
    obtain ⟨k, sl, hk, rfl, hown, hrow, hbw, hsz⟩ := hrel
    by_cases hlt : k < l.length
    · have hki : decide ((k : Int) < (l.length : Int)) = true := decide_eq_true (by omega)
      have hkn : decide (k < l.length) = true := decide_eq_true hlt
      obtain ⟨b, o, rfl, _, x0, x1, x2, x3, x4, x5, x6, x7⟩ := (HX.out.below ((HB1.out.trans (hbw.mono (by have := HB1.out.size; omega))).mono hB)).stp hlt
      obtain ⟨hM, h200, hE⟩ := Hcl.out
      have hmb := msK_bd hM k fun j hj => hE j (by omega)
      have hxS := stE_isS (hE k hlt)
      have hxm := isS_ms hxS
      have hfk := fzK_le l k
      obtain ⟨x, hxx⟩ : ∃ x, at0 l k = x := ⟨_, rfl⟩
      rw [hxx] at x0 x1 x2 x3 x4 x5 x6 x7 hxS hxm
      have Hxx := Lib.hid hxx
      have Hown := Lib.hid hown
      have Hrow := Lib.hid hrow
      have Hbw := Lib.hid hbw
      clear hM hE hown hrow hbw hxx
      by_cases h1 : x.kd = 1
      · have e1 : (x.kd == 1) = true := by simpa using h1
        have H1 := Lib.hid h1
        clear h1
        go_upto_region 9 with (fail)
        obtain ⟨X1, hX1⟩ : ∃ X1, X1 = X0.alloc (.cells (stpArr x) 33) := ⟨_, rfl⟩
        have b01 : Below X0.heap.size X0 X1 := by rw [hX1]; exact (Below.refl _ _).alloc (Nat.le_refl _) _
        have s01 : X1.heap.size = X0.heap.size + 1 := by rw [hX1]; simp
        have t1 := (b01.block tb (by omega)).trans Hrow.out
        have HTS1 : Hid (X1.heap[X0.heap.size]? = some (.cells (stpArr x) 33 (0, 0))) := by show _ = _; rw [hX1]; exact heap_last _ _ _ rfl
        have own1 := Lib.hid (own_below Hown.out b01)
        have HL1 : Hid (Below w1.heap.size w1 X1) := Hbw.out.trans (b01.mono Hbw.out.size)
        have HT1 := Lib.hid t1
        obtain ⟨tsx, htsx⟩ : ∃ q, X0.heap.size = q := ⟨_, rfl⟩
        rw [← hX1, htsx]
        rw [htsx] at HTS1 s01 hsz
        have s01' : tsx < X1.heap.size := by omega
        have p0 : X1.cell? ⟨tb, 0, none⟩ = some sl := by rw [cell_of_row _ _ _ _ _ _ t1]; rfl
        have p1 : X1.cell? ⟨tsx, 1, none⟩ = some (I x.ms) := by rw [cell_of_row _ _ _ _ _ _ HTS1.out]; rfl
        have hg9 : fzK l k ≤ 200 := by omega
        have hfz : fzK l (k + 1) = fzK l k + 1 := by rw [fzK, Hxx.out, if_pos H1.out]
        have HF : Hid (flat 7 (gM l) (fzK l k + 1) = flat 7 (gM l) (fzK l k) ++ [I x.ms, I 0, I 0, I 0, I 0, I 0, I 0]) := by
         show _ = _
         rw [flat_succ 7 (by decide)]
         have e := (frz_at hlt (by rw [Hxx.out]; exact H1.out)).2
         rw [Hxx.out] at e
         show _ ++ (List.range 7).map (gM l (fzK l k)) = _
         have : (List.range 7).map (gM l (fzK l k)) = [I (at0 (frz l) (fzK l k)).ms, I 0, I 0, I 0, I 0, I 0, I 0] := rfl
         rw [this, e]
        have Hfz := Lib.hid hfz
        obtain ⟨fk, hfk0⟩ : ∃ q, fzK l k = q := ⟨_, rfl⟩
        have Hfk0 := Lib.hid hfk0
        rw [hfk0] at own1 HF hg9 hfk
        clear hX1 b01 t1 hfz hfk0 s01 Hown Hrow Hbw htsx x0 x1 x2 x3 x4 x5 x6 x7
        go_wp2_with (at_builtin; go_loud (refine wpList_append_own _ rfl _ _ 34 rfl (tb + 1) 50 i0 _ 7 56 Tryd.underlying34 hi0 iz0 iz1 iz2 rfl (by decide) sl fk (flat 7 (gM l) fk) rfl (own1.out.alloc _) ⟨X1.heap.size, 0, none⟩ 1 1 [I x.ms, I 0, I 0, I 0, I 0, I 0, I 0] rfl (by rfl) (news_lit (cs := #[I x.ms, I 0, I 0, I 0, I 0, I 0, I 0]) (heap_last _ _ _ rfl)) ?h1 ?h63 ?hby ?hba ?_))
        case h1 => simp [Value.oneCell']
        case h63 => unfold maxLen; omega
        case hby => omega
        case hba => simp; omega
        intro v' w2 own3 hg2 _
        obtain ⟨g', cap', rfl⟩ := ownsRow_succ own3
        have hno : ∀ q, sl.ownBlock = some q → tb + 1 ≤ q := fun q hq => (own1.out.lt q hq).1
        have hB2 : Below (tb + 1) X1 w2 := ((Below.refl _ _).alloc (by omega) _).grown hg2 (by simp; omega) hno
        have hto : ∀ q o', q < X1.heap.size → (∀ q', sl.ownBlock = some q' → q ≠ q') → X1.heap[q]? = some o' → w2.heap[q]? = some o' := fun q o' hq hn h => (hg2.block q (by simp; omega) (fun e => hn q e.symm rfl)).trans (heap_before h)
        have t2 := hto tb _ (by omega) (fun q hq => by have := hno q hq; omega) HT1.out
        have ts2 := hto tsx _ s01' (fun q hq => fun e => by
         have h3 := own_type own1.out hq (e ▸ HTS1.out)
         exact absurd h3 (by decide)) HTS1.out
        have p0 : w2.cell? ⟨tb, 0, none⟩ = some sl := by rw [cell_of_row _ _ _ _ _ _ t2]; rfl
        have p1 := frozen_of_row _ _ 0 _ _ t2
        have hs2 := hB2.size
        have own2 : Hid (w2.ownsRow (tb + 1) 50 7 (.slice (some ⟨g', 0, none⟩) (fk + 1) cap') (fk + 1) (flat 7 (gM l) (fk + 1))) := by rw [HF.out]; exact own3
        have HB2 := Lib.hid hB2
        have HT2 := Lib.hid t2
        have HTS2 := Lib.hid ts2
        clear own3 hg2 hto t2 ts2 hB2 hno
        go_upto_region 10 with (fail)
        obtain ⟨Y, hY⟩ : ∃ Y, Y = w2.setCell ⟨tb, 0, none⟩ (.slice (some ⟨g', 0, none⟩) (fk + 1) cap') := ⟨_, rfl⟩
        have HTB : Hid (Y.heap[tb]? = some (.cells (runArr (.slice (some ⟨g', 0, none⟩) (fk + 1) cap') (rIni m (msK m l k))) 36 (0, 0))) := by
         show _ = _; rw [hY]; exact rs HT2.out 0 _
        have HTS : Hid (Y.heap[tsx]? = some (.cells (stpArr x) 33 (0, 0))) := by show _ = _; rw [hY]; exact ro HTS2.out (by omega)
        have HOY : Hid (Y.ownsRow (tb + 1) 50 7 (.slice (some ⟨g', 0, none⟩) (fk + 1) cap') (fzK l (k + 1)) (flat 7 (gM l) (fzK l (k + 1)))) := by
         rw [Hfz.out, Hfk0.out, hY]; exact own_set own2.out (by omega)
        have HLY : Hid (Below w1.heap.size w1 Y) := by
         show Below _ _ _; rw [hY]; exact (HL1.out.trans (HB2.out.mono (by omega))).setCell (p := ⟨tb, 0, none⟩) (by show w1.heap.size ≤ tb; omega) _
        have s02 : tsx < Y.heap.size := by rw [hY]; simp; omega
        have s03 : tb + 1 ≤ Y.heap.size := by omega
        rw [← hY]
        clear hY p0 p1 hs2
        obtain ⟨z0, z1, z2, z3, z4, z5, z6, z7⟩ := stp_cells HTS.out
        have p0 : Y.cell? ⟨tb, 1, none⟩ = some (I (msK m l k)) := by rw [cell_of_row _ _ _ _ _ _ HTB.out]; rfl
        go_wp2_with fail
        refine (grown_any (msK m l k) x Y (by omega) (fun h => by have := hxm h; omega)).mono ?_
        rintro e w4 ⟨rfl, hb4⟩
        have htY := (Array.getElem?_eq_some_iff.1 HTB.out).1
        have r4 := (hb4.block tb htY).trans HTB.out
        have p0 : w4.cell? ⟨tb, 1, none⟩ = some (I (msK m l k)) := by rw [cell_of_row _ _ _ _ _ _ r4]; rfl
        have p1 := frozen_of_row _ _ 1 _ _ r4
        have H4 := Lib.hid hb4
        have R4 := Lib.hid r4
        have HMs : Hid (grF (msK m l k) x = msK m l (k + 1)) := by show _ = _; rw [← Hxx.out]; rfl
        clear hb4 r4 z0 z1 z2 z3 z4 z5 z6 z7
        obtain ⟨mn, hmn⟩ : ∃ q, grF (msK m l k) x = q := ⟨_, rfl⟩
        rw [hmn] at HMs ⊢
        clear hmn
        go_wp2_with fail
        go_roundw
        case rel =>
         have own4 := own_below HOY.out H4.out
         refine ⟨k + 1, _, by omega, by go_num, own_set own4 (by omega), ?_, (HLY.out.trans (H4.out.mono HLY.out.size)).setCell (p := ⟨tb, 1, none⟩) (by show w1.heap.size ≤ tb; omega) _, by have := H4.out.size; simp; omega⟩
         rw [← HMs.out, ← rIni_set m (msK m l k) mn, ← run_set _ _ 1 _ (by omega)]
         exact rs R4.out _ _
        case measure => simp [intOf]; omega
      · have e1 : (x.kd == 1) = false := by simpa using h1
        have H1 := Lib.hid h1
        clear h1
        go_upto_region 10 with (fail)
        obtain ⟨Y, hY⟩ : ∃ Y, Y = X0.alloc (.cells (stpArr x) 33) := ⟨_, rfl⟩
        have b01 : Below X0.heap.size X0 Y := by rw [hY]; exact (Below.refl _ _).alloc (Nat.le_refl _) _
        have s01 : Y.heap.size = X0.heap.size + 1 := by rw [hY]; simp
        have HTB := Lib.hid ((b01.block tb (by omega)).trans Hrow.out)
        have HTS : Hid (Y.heap[X0.heap.size]? = some (.cells (stpArr x) 33 (0, 0))) := by show _ = _; rw [hY]; exact heap_last _ _ _ rfl
        have hfz : fzK l (k + 1) = fzK l k := by rw [fzK, Hxx.out, if_neg H1.out]
        have HOY : Hid (Y.ownsRow (tb + 1) 50 7 sl (fzK l (k + 1)) (flat 7 (gM l) (fzK l (k + 1)))) := by rw [hfz]; exact own_below Hown.out b01
        have HLY : Hid (Below w1.heap.size w1 Y) := Hbw.out.trans (b01.mono Hbw.out.size)
        obtain ⟨tsx, htsx⟩ : ∃ q, X0.heap.size = q := ⟨_, rfl⟩
        rw [← hY, htsx]
        rw [htsx] at HTS s01 hsz
        have s01' : tsx < Y.heap.size := by omega
        clear hY b01 hfz s01 Hown Hrow Hbw htsx x0 x1 x2 x3 x4 x5 x6 x7
        obtain ⟨z0, z1, z2, z3, z4, z5, z6, z7⟩ := stp_cells HTS.out
        have p0 : Y.cell? ⟨tb, 1, none⟩ = some (I (msK m l k)) := by rw [cell_of_row _ _ _ _ _ _ HTB.out]; rfl
        go_wp2_with fail
        refine (grown_any (msK m l k) x Y (by omega) (fun h => by have := hxm h; omega)).mono ?_
        rintro e w4 ⟨rfl, hb4⟩
        have htY := (Array.getElem?_eq_some_iff.1 HTB.out).1
        have r4 := (hb4.block tb htY).trans HTB.out
        have p0 : w4.cell? ⟨tb, 1, none⟩ = some (I (msK m l k)) := by rw [cell_of_row _ _ _ _ _ _ r4]; rfl
        have p1 := frozen_of_row _ _ 1 _ _ r4
        have H4 := Lib.hid hb4
        have R4 := Lib.hid r4
        have HMs : Hid (grF (msK m l k) x = msK m l (k + 1)) := by show _ = _; rw [← Hxx.out]; rfl
        clear hb4 r4 z0 z1 z2 z3 z4 z5 z6 z7
        obtain ⟨mn, hmn⟩ : ∃ q, grF (msK m l k) x = q := ⟨_, rfl⟩
        rw [hmn] at HMs ⊢
        clear hmn
        go_wp2_with fail
        go_roundw
        case rel =>
         have own4 := own_below HOY.out H4.out
         refine ⟨k + 1, _, by omega, by go_num, own_set own4 (by omega), ?_, (HLY.out.trans (H4.out.mono HLY.out.size)).setCell (p := ⟨tb, 1, none⟩) (by show w1.heap.size ≤ tb; omega) _, by have := H4.out.size; simp; omega⟩
         rw [← HMs.out, ← rIni_set m (msK m l k) mn, ← run_set _ _ 1 _ (by omega)]
         exact rs R4.out _ _
        case measure => simp [intOf]; omega
    · obtain rfl : k = l.length := by omega
      have hki : decide ((l.length : Int) < (l.length : Int)) = false := decide_eq_false (by omega)
      obtain ⟨sA, sc, hsl, hsc1, hsc2, _⟩ := Rd.of_own_max hown
      have hnb : ∀ q, sl.ownBlock = some q → tb + 1 ≤ q ∧ q < X0.heap.size := fun q hq => hown.lt q hq
      have hS0 := SlIn.of_own hown
      have HS0 := Lib.hid hS0
      have Hrow := Lib.hid hrow
      have Hbw := Lib.hid hbw
      have HnB := Lib.hid hnb
      have HSL := Lib.hid (And.intro hsl (And.intro hsc1 hsc2))
      clear hown hrow hbw hS0 hsl hnb hsc1 hsc2
      go_wp2_with fail
      go_loopw [45] (fun i wr => ∃ s : Nat, s ≤ 3 ∧ i = .int .i64 s ∧ wr.heap[tb]? = some (.cells (runArr sl (prRk m l s)) 36 (0, 0)) ∧ SlIn (tb + 1) wr sl (fzK l l.length) (prSk m l s) ∧ Below w1.heap.size w1 wr ∧ X0.heap.size ≤ wr.heap.size) (fun i _ => 3 - (intOf i).toNat)
      case atStart => exact ⟨0, by omega, rfl, Hrow.out, HS0.out, Hbw.out, Nat.le_refl _⟩
      case round =>
       rename World => X1
       obtain ⟨s, hs3, rfl, hrow, hsl, hbw, hsz1⟩ := hrel
       have Hrow1 := Lib.hid hrow
       have Hsl1 := Lib.hid hsl
       have Hbw1 := Lib.hid hbw
       have r0 := (hbw.block w.heap.size (by omega)).trans HR0.out
       clear hrow hsl hbw
       by_cases hs : s < 3
       · have d2 : decide ((s : Int) < 3) = true := decide_eq_true (by omega)
         have d3 : decide (s < 3) = true := decide_eq_true hs
         have y := fun k (v : Value) (h : (mltArr m)[k]? = some v) => (show X1.cell? ⟨w.heap.size, k, none⟩ = some v by rw [cell_of_row _ _ _ _ _ _ r0]; exact h)
         have y0 := y 0 _ rfl
         have y1 := y 1 _ rfl
         have y2 := y 2 _ rfl
         have y3 := y 3 _ rfl
         have y4 := y 4 _ rfl
         have y5 := y 5 _ rfl
         have y6 := y 6 _ rfl
         clear y r0
         go_wp2_with fail
         obtain ⟨hM, h200, hE⟩ := Hcl.out
         have hbB : Below B w X1 := (HB1.out.trans (Hbw1.out.mono HB1.out.size)).mono hB
         refine (fill_any m s (fzK l l.length) l A c tb tb sl (prRk m l s) (prSk m l s) X1 (HG.out.lo hbB h3) (by omega) hs h200 hM hE (Nat.le_refl _) ((HX.out.below hbB).more (by omega)) Hrow1.out rfl (Hsl1.out.more (by omega)) ⟨sA, sc, HSL.out.1⟩ (fun q hq => by have := HnB.out q hq; omega) ⟨prRk_zero s hs3 (by omega), prRk_zero s hs3 (by omega)⟩).mono ?_
         rintro e w5 ⟨rfl, hr5, hs5, hb5, hk5⟩
         have Hr5 := Lib.hid hr5
         have Hs5 : Hid (SlIn (tb + 1) w5 sl (fzK l l.length) (prSk m l (s + 1))) := hs5.more' fun q hq => (HnB.out q hq).1
         have Hb5 : Hid (Below w1.heap.size w1 w5) := Hbw1.out.trans (hb5.mono (by omega))
         have hs15 := hb5.size
         clear hr5 hs5 hb5 hk5 y0 y1 y2 y3 y4 y5 y6
         go_wp2_with fail
         go_roundw
         case rel => exact ⟨s + 1, by omega, by go_num, Hr5.out, Hs5.out, Hb5.out, by omega⟩
         case measure => simp [intOf]; omega
       · obtain rfl : s = 3 := by omega
         have r4 := (Hbw1.out.block (w.heap.size + 1) (by omega)).trans HR1.out
         have HR4 := Lib.hid r4
         clear r0 r4
         go_wp2_with first | (refine wpList_load_row rfl 36 _ rfl tb rfl _ _ _ _ Hrow1.out Tryd.underlying36 rfl (by kernel_rfl) ?_) | (refine wpList_store_row rfl 36 _ _ rfl (w.heap.size + 1) rfl _ _ HR4.out (runArr sl (prRk m l 3)) rfl (run_one (by rw [HSL.out.1]; rfl)) rfl (by kernel_rfl) ?_)
         refine bodyPost_ret (results_cell_tmp rfl _ _ (w.heap.size + 1) 36 _ (0, 0) _ rfl (setRow_same HR4.out) Tryd.underlying36 rfl (by kernel_rfl)) rfl ?_
         have hsl := HSL.out
         have h6 := Hsl1.out.row (w' := X1.setRow (w.heap.size + 1) (runArr sl (prRk m l 3))) fun q _ hq _ => setRow_other (by omega)
         rw [hsl.1] at h6
         refine ⟨below_setRow (HB1.out.trans (Hbw1.out.mono HB1.out.size)) (by omega) _, .inr ⟨Hck.out, sA, sc, by rw [← hsl.1]; rfl, hsl.2.1, hsl.2.2, ?_⟩⟩
         rw [← hsl.1] at h6
         have h7 := h6
         rw [hsl.1] at h7
         rw [hsl.1]
         exact h7.more (by omega)
 obtain ⟨ce, hce⟩ : ∃ q, ckF m l = q := ⟨_, rfl⟩
 rw [hce] at hck
 have Hce := Lib.hid hce
 have Hck := Lib.hid hck
 rw [hce]
 have d1 : (ce == 0) = false := by simpa using hck
 clear hce hck R0
 go_wp2_with (refine wpList_store_row rfl 36 _ _ rfl (w.heap.size + 1) rfl _ _ HR1.out (runArr (.slice none 0 0) fun _ => 0) rfl (run_one rfl) rfl (by kernel_rfl) ?_)
 refine bodyPost_ret (results_cell_tmp rfl _ _ (w.heap.size + 1) 36 _ (0, 0) _ rfl (setRow_same HR1.out) Tryd.underlying36 rfl (by kernel_rfl)) rfl ?_
 exact ⟨below_setRow HB1.out (by omega) _, .inl ⟨by rw [Hce.out]; exact Hck.out, by rw [Hce.out]; rfl⟩⟩
end Go.Proofs.YtnkaoplgmglijaaDoor
