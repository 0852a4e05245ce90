/- Contract of Remove of package finish. -/
import Derived.Test.YtljjpidigckheaaKm
import Derived.Test.YtljjpidigckheaaKw
namespace Go.Proofs.Ytljjpidigckheaa.Un
open Go.RowKit
theorem wpList_app_row {P : Program} {ops : Array Oper} {rest : List Oper} {o : Oper} {a : Act} {w : World} {Q : Exit → Act → World → Prop} (hg : o.guard = none) (s x : Operand) (t : TypeId) (ho : o.op = .call { callee := .builtin .append, args := #[s, x], argTypes := #[t, t] })
 (e : TypeId) (i : TypeInfo) (z : Value) (sz bytes : Nat) (ht : P.underlying t = some (.slice e)) (hi : P.info? e = some i) (hz : i.zero = some z) (hsz : i.size = sz) (hby : i.bytes = bytes) (hzs : z.cells.size = sz) (h0 : 0 < sz)
 (b : Nat) (hs : a.eval s = .slice (some ⟨b, 0, none⟩) 0 0) (b2 o2 : Nat) (n c : Nat) (hx : a.eval x = .slice (some ⟨b2, o2, none⟩) n c) (g : Nat → Nat → Value) (hr : Rd w w.heap.size sz (some ⟨b2, o2, none⟩) n g) (hn0 : 0 < n) (hn : n ≤ 1000000) (hb : bytes ≤ 1000000)
 (hK : ∀ v' w', w'.ownsRow w.heap.size e sz v' n (flat sz g n) → w.grownBy w' none → wpList P ops Q rest (a.put o.dst v') w') : wpList P ops Q (o :: rest) a w := by
 refine wpList_plain hg fun K hK' => ?_
 obtain ⟨b3, o3, hA, _, hc⟩ := hr hn0
 injection hA with hA
 injection hA with hA1 hA2
 subst hA1 hA2
 have hm : n * bytes ≤ 1000000 * 1000000 := Nat.mul_le_mul hn hb
 obtain ⟨v', w', hrun, hown, hgr⟩ := run_append_arg_grows (P := P) w t o.type e i z sz bytes ht hi hz hsz hby hzs h0 ⟨b, 0, none⟩ 0 0 [] (by simp) (fun j u hu => by simp at hu) ⟨b2, o2, none⟩ n c (flat sz g n) (flat_len _ _ _) (Rd.flat_at hc h0) (by omega) (by unfold maxLen; omega) (by rw [Nat.zero_add]; omega)
 rw [Nat.zero_add, List.nil_append] at hown
 unfold Oper.wp
 simp [execOp, ho, resolve, invoke, builtin, hs, hx, hrun, Result.andThen]
 exact hK' _ _ (hK v' w' hown hgr)
theorem eq_nil (b o n c : Nat) (w : World) : (binOp BinOp.eql 35 (.slice (some ⟨b, o, none⟩) n c) (.slice none 0 0)).run Try.prog w = .ok (.bool false) w := by kernel_rfl
set_option maxRecDepth 100000 in
set_option maxHeartbeats 1000000 in
theorem clone_any (A : Option Addr) (n c : Nat) (g : Nat → Nat → Value) (w : World) (B : Nat) (h0 : 0 < n) (hn : n ≤ 1000) (hB : B ≤ w.heap.size) (hx : Rd w B 2 A n g) :
 Calls Try.prog 81 #[.slice A n c] w fun e w' => ∃ v, e = .returned v ∧ w'.ownsRow w.heap.size 24 2 v n (flat 2 g n) ∧ Below w.heap.size w w' := by
 obtain ⟨i0, hi0, iz0, iz1, iz2⟩ := info_parts rng9_info
 obtain ⟨b, o, rfl, hb, hc⟩ := hx h0
 have HX := Lib.hid hx
 have HB := Lib.hid hB
 have HN := Lib.hid (And.intro h0 hn)
 clear hx hB hn hc h0 hb
 have hnil := fun w => eq_nil b o n c w
 go_enter Try.func81, Try.ntmps81
 go_wp2_with (at_builtin; go_loud (refine wpList_app_row rfl _ _ 35 rfl 24 i0 _ 2 16 Try.underlying35 hi0 iz0 iz1 iz2 rfl (by decide) _ rfl b o n c rfl g ((HX.out.alloc HB.out _).more (by have := HB.out; simp; omega)) HN.out.1 (by have := HN.out; omega) (by decide) ?_))
 intro v' w' h1 h2
 have H4 : Hid (w'.ownsRow w.heap.size 24 2 v' n (flat 2 g n) ∧ Below w.heap.size w w') :=
  ⟨own_less h1 (by simp), ((Below.refl _ _).alloc (Nat.le_refl _) _).grown h2 (by simp) (fun k hk => by cases hk)⟩
 clear h1 h2
 go_wp2_with fail
 go_ret
 exact ⟨_, rfl, H4.out⟩
def Row2 (g : Nat) (t : TypeId) (n : Nat) (gg : Nat → Nat → Value) (V : World) : Prop := ∃ cur, V.heap[g]? = some (.cells cur t (0, 0)) ∧ ∀ k, k < n → ∀ j, j < 2 → cur[k * 2 + j]? = some (gg k j)
theorem Row2.below {g n : Nat} {t : TypeId} {gg : Nat → Nat → Value} {V U : World} (h : Row2 g t n gg V) (hb : Below V.heap.size V U) : Row2 g t n gg U := by
 obtain ⟨cur, h1, h2⟩ := h
 exact ⟨cur, (hb.block _ (lt_of_row h1)).trans h1, h2⟩
theorem Row2.other {g n b o : Nat} {t : TypeId} {gg : Nat → Nat → Value} {V : World} {v : Value} (h : Row2 g t n gg V) (hn : g ≠ b) : Row2 g t n gg (V.setCell ⟨b, o, none⟩ v) := by
 obtain ⟨cur, h1, h2⟩ := h
 exact ⟨cur, sc_other h1 hn, h2⟩
theorem Row2.cell {g n : Nat} {t : TypeId} {gg : Nat → Nat → Value} {V : World} (h : Row2 g t n gg V) {k j : Nat} (hk : k < n) (hj : j < 2) : V.cell? ⟨g, k * 2 + j, none⟩ = some (gg k j) := by
 obtain ⟨cur, h1, h2⟩ := h
 rw [cell_of_row _ _ _ _ _ _ h1]
 exact h2 k hk j hj
theorem Row2.frozen {g n : Nat} {t : TypeId} {gg : Nat → Nat → Value} {V : World} (h : Row2 g t n gg V) (o : Nat) : V.frozen? ⟨g, o, none⟩ = false := by
 obtain ⟨cur, h1, _⟩ := h
 exact frozen_of_row _ _ _ _ _ h1
theorem Row2.rd {g n : Nat} {t : TypeId} {gg : Nat → Nat → Value} {V : World} (h : Row2 g t n gg V) : Rd V V.heap.size 2 (some ⟨g, 0, none⟩) n gg := fun _ => by
 refine ⟨g, 0, rfl, ?_, fun k hk j hj => ?_⟩
 · obtain ⟨cur, h1, _⟩ := h
   exact lt_of_row h1
 · rw [Nat.zero_add]
   exact h.cell hk hj
theorem Row2.set {g n i m : Nat} {t : TypeId} {gg gg' : Nat → Nat → Value} {V : World} {z : Value} (h : Row2 g t n gg V) (hi : i < n) (hm : m < 2) (hz : gg' i m = z) (h1 : ∀ k, k < n → ∀ j, j < 2 → ¬ (k = i ∧ j = m) → gg' k j = gg k j) : Row2 g t n gg' (V.setCell ⟨g, i * 2 + m, none⟩ z) := by
 obtain ⟨cur, hr, hc⟩ := h
 refine ⟨_, rs hr (i * 2 + m) z, fun k hk j hj => ?_⟩
 rw [Array.getElem?_setIfInBounds]
 by_cases he : k = i ∧ j = m
 · obtain ⟨rfl, rfl⟩ := he
   have hs : k * 2 + j < cur.size := by
    have := hc k hk j hj
    exact (Array.getElem?_eq_some_iff.1 this).1
   rw [if_pos rfl, if_pos hs, hz]
 · rw [if_neg (by omega), h1 k hk j hj he]
   exact hc k hk j hj
theorem Row2.of_own {w : World} {base n : Nat} {e : TypeId} {v : Value} {gg : Nat → Nat → Value} (h : w.ownsRow base e 2 v n (flat 2 gg n)) (hn : 0 < n) : ∃ g c, v = .slice (some ⟨g, 0, none⟩) n c ∧ (n ≤ c ∧ c ≤ maxLen) ∧ base ≤ g ∧ Row2 g e n gg w := by
 rcases h.2 with ⟨_, h0⟩ | ⟨g, cap, cur, rfl, hg, hr, h1, h2, _, ht⟩
 · omega
 · refine ⟨g, cap, rfl, ⟨h1, h2⟩, hg, cur, hr, fun k hk j hj => ?_⟩
   have := flat_get gg hk hj
   rw [← ht, List.getElem?_take, if_pos (idx_lt hk hj)] at this
   simpa using this
def gS (xs : List Rng) (sp : Int) (i m : Nat) (k j : Nat) : Value := if k < i ∨ (k = i ∧ j < m) then (if j = 0 then I ((at0 xs k).lo - sp) else I ((at0 xs k).hi + sp)) else rR xs k j
/-! What is removed. -/
def rmSp (l : List Rmv) : Nat → Int
 | 0 => 0 | k + 1 => rmSp l k + (at0 l k).s
def rmC (c : Rng) (l : List Rmv) : Nat → Rng
 | 0 => c | k + 1 => ⟨(rmC c l k).lo - (at0 l k).a.hi, (rmC c l k).hi - (at0 l k).a.lo⟩
def rmE (h c : Rng) (s : Int) : Int := if c.lo < 0 ∨ c.lo + h.lo - s < 0 then 91 else if h.lo - s < -1000000 ∨ 1000000 < h.hi + s then 10 else 0
def rmF (h c : Rng) (l : List Rmv) : Nat → Int
 | 0 => 0 | k + 1 => if rmF h c l k ≠ 0 then rmF h c l k else rmE h (rmC c l (k + 1)) (rmSp l (k + 1))
def rmEr (x : Sht) (l : List Rmv) : Int := if okSh x = false then 2 else if 30 < l.length then 5 else if l.any rmB = true then 2 else if srt l (l.length - 1) = false then 9 else rmF (hu9 x.s) x.c l l.length
def rmX (x : Sht) (l : List Rmv) : Sht := if rmEr x l = 0 then ⟨x.w, x.h, rmC x.c l l.length, x.s.map fun r => ⟨r.lo - rmSp l l.length, r.hi + rmSp l l.length⟩⟩ else ⟨0, 0, ⟨0, 0⟩, []⟩
def RetRm (w : World) (y : Sht) (er : Int) (e : Ending) (w' : World) : Prop := ∃ S n, e = .returned (.tuple #[.agg #[I y.w, I y.h, I y.c.lo, I y.c.hi, .slice S y.s.length n], I er]) ∧ (y.s.length ≤ n ∧ n ≤ maxLen) ∧ Rd w' w'.heap.size 2 S y.s.length (rR y.s) ∧ Below w.heap.size w w'
theorem rmF_none {h c : Rng} {l : List Rmv} {k : Nat} (hk : rmF h c l k ≠ 0) : ∀ m, k ≤ m → rmF h c l m = rmF h c l k
 | 0, hm => by obtain rfl : k = 0 := by omega
               rfl
 | m + 1, hm => by
   rcases Nat.lt_or_ge k (m + 1) with h1 | h1
   · have := rmF_none hk m (by omega)
     show (if rmF h c l m ≠ 0 then rmF h c l m else _) = _
     rw [this, if_pos hk]
   · obtain rfl : k = m + 1 := by omega
     rfl
structure RmW (w : World) (x : Sht) (c : Rng) (v : Value) (h : Rng) (q6 : Nat) (V : World) : Prop where
 r0 : V.heap[w.heap.size]? = some (.cells #[I x.w, I x.h, I c.lo, I c.hi, v] 37 (0, 0))
 r1 : V.heap[w.heap.size + 1]? = some (.cells #[I 0, I 0, I 0, I 0, .slice none 0 0] 37 (0, 0))
 r6 : V.heap[q6]? = some (.cells #[I h.lo, I h.hi] 24 (0, 0))
 bw : Below w.heap.size w V
 lt : w.heap.size + 1 < q6
theorem RmW.below {w V U : World} {x : Sht} {c h : Rng} {v : Value} {q6 : Nat} (hh : RmW w x c v h q6 V) (hb : Below V.heap.size V U) : RmW w x c v h q6 U :=
 ⟨(hb.block _ (lt_of_row hh.r0)).trans hh.r0, (hb.block _ (lt_of_row hh.r1)).trans hh.r1, (hb.block _ (lt_of_row hh.r6)).trans hh.r6, hh.bw.trans (hb.mono hh.bw.size), hh.lt⟩
theorem RmW.set {w V : World} {x : Sht} {c c' h : Rng} {v v' : Value} {q6 o : Nat} {u : Value} (hh : RmW w x c v h q6 V) (e : (#[I x.w, I x.h, I c.lo, I c.hi, v] : Array Value).setIfInBounds o u = #[I x.w, I x.h, I c'.lo, I c'.hi, v']) : RmW w x c' v' h q6 (V.setCell ⟨w.heap.size, o, none⟩ u) := by
 have hl := hh.lt
 refine ⟨?_, sc_other hh.r1 (by omega), sc_other hh.r6 (by omega), sc_below hh.bw (by omega) _ _, hh.lt⟩
 rw [← e]
 exact rs hh.r0 o u
theorem RmW.other {w V : World} {x : Sht} {c h : Rng} {v : Value} {q6 g o : Nat} {u : Value} (hh : RmW w x c v h q6 V) (h1 : w.heap.size < g) (h2 : q6 < g) : RmW w x c v h q6 (V.setCell ⟨g, o, none⟩ u) := by
 have hl := hh.lt
 exact ⟨sc_other hh.r0 (by omega), sc_other hh.r1 (by omega), sc_other hh.r6 (by omega), sc_below hh.bw (by omega) _ _, hh.lt⟩
structure RmB (k : Nat) (c : Rng) (s : Int) : Prop where
 lo : 0 ≤ c.lo ∧ c.lo ≤ c.hi ∧ c.hi ≤ 10000000
 s : 0 ≤ s ∧ s ≤ k * 1000000
theorem rm_bd {x : Sht} {l : List Rmv} (ho : okSh x = true) (hv : ∀ k, k < l.length → rmB (at0 l k) = false) : ∀ k, k ≤ l.length → rmF (hu9 x.s) x.c l k = 0 → RmB k (rmC x.c l k) (rmSp l k)
 | 0, _, _ => by
   have := spn9_iff.1 (okSh_iff.1 ho).2.2.2.2
   exact ⟨this, by show (0 : Int) ≤ 0 ∧ (0 : Int) ≤ _; simp⟩
 | k + 1, hk, h => by
   have h0 : rmF (hu9 x.s) x.c l k = 0 := by
     rcases Classical.em (rmF (hu9 x.s) x.c l k = 0) with h1 | h1
     · exact h1
     · have := rmF_none h1 (k + 1) (by omega)
       rw [this] at h
       exact h
   have hb := rm_bd ho hv k (by omega) h0
   obtain ⟨_, _, h3, h4⟩ := rmB_no.1 (hv k (by omega))
   have he : rmE (hu9 x.s) (rmC x.c l (k + 1)) (rmSp l (k + 1)) = 0 := by
     have : rmF (hu9 x.s) x.c l (k + 1) = if rmF (hu9 x.s) x.c l k ≠ 0 then rmF (hu9 x.s) x.c l k else rmE (hu9 x.s) (rmC x.c l (k + 1)) (rmSp l (k + 1)) := rfl
     rw [h, h0, if_neg (by simp)] at this
     exact this.symm
   unfold rmE at he
   split at he
   · cases he
   · rename_i hne
     have e1 : (rmC x.c l (k + 1)).lo = (rmC x.c l k).lo - (at0 l k).a.hi := rfl
     have e2 : (rmC x.c l (k + 1)).hi = (rmC x.c l k).hi - (at0 l k).a.lo := rfl
     have e3 : rmSp l (k + 1) = rmSp l k + (at0 l k).s := rfl
     have b1 := hb.lo
     have b2 := hb.s
     refine ⟨by omega, ?_⟩
     rw [e3, Int.natCast_add, Int.add_mul]
     omega
theorem rm_ne {x : Sht} {l : List Rmv} {er : Int} (h : rmEr x l = er) (he : er ≠ 0) : rmX x l = ⟨0, 0, ⟨0, 0⟩, []⟩ := by
 unfold rmX
 rw [if_neg (by rw [h]; exact he)]
set_option maxRecDepth 100000 in
set_option maxHeartbeats 8000000 in
theorem remove_any (x : Sht) (A : Option Addr) (n : Nat) (l : List Rmv) (L : Option Addr) (m : Nat) (w : World) (B : Nat) (hn : x.s.length ≤ n ∧ n ≤ maxLen) (hB : B ≤ w.heap.size) (hx : Rd w B 2 A x.s.length (rR x.s)) (hl : Rd w B 4 L l.length (rV l)) (hm : l.length ≤ 1000) :
 Calls Try.prog 41 #[.agg (shA x A n), .slice L l.length m] w (RetRm w (rmX x l) (rmEr x l)) := by
 have HRD : Hid (∀ V, Below w.heap.size w V → Rd V B 2 A x.s.length (rR x.s) ∧ Rd V B 4 L l.length (rV l) ∧ B ≤ V.heap.size) := fun V hV => ⟨hx.below (hV.mono hB), hl.below (hV.mono hB), Nat.le_trans hB hV.size⟩
 have HM := Lib.hid hm
 have HN := Lib.hid hn
 have CS : Hid (∀ V, Below w.heap.size w V → Calls Try.prog 21 #[.agg #[I x.w, I x.h, I x.c.lo, I x.c.hi, .slice A x.s.length n]] V fun e w' => e = .returned (I (er9 (okSh x))) ∧ Below V.heap.size V w') := fun V hV => checkSheet_any x A n V B (HRD.out V hV).2.2 (HRD.out V hV).1
 have hE : Hid (rmEr x l = if okSh x = false then 2 else if 30 < l.length then 5 else if l.any rmB = true then 2 else if srt l (l.length - 1) = false then 9 else rmF (hu9 x.s) x.c l l.length) := rfl
 clear hx hB hl hn hm
 obtain ⟨W, hW⟩ : ∃ W, W = ((w.alloc (.cells #[I x.w, I x.h, I x.c.lo, I x.c.hi, .slice A x.s.length n] 37)).alloc (.cells #[I 0, I 0, I 0, I 0, .slice none 0 0] 37)) := ⟨_, rfl⟩
 have rowW0 : W.heap[w.heap.size]? = some (.cells #[I x.w, I x.h, I x.c.lo, I x.c.hi, .slice A x.s.length n] 37 (0, 0)) := by rw [hW]; exact heap_before (heap_last _ _ _ rfl)
 have yW00 := ovr_cell (W := W) (b := w.heap.size) (o := 0) (v := I x.w) (by rw [cell_of_row _ _ _ _ _ _ rowW0]; rfl)
 have yW01 := ovr_cell (W := W) (b := w.heap.size) (o := 1) (v := I x.h) (by rw [cell_of_row _ _ _ _ _ _ rowW0]; rfl)
 have yW02 := ovr_cell (W := W) (b := w.heap.size) (o := 2) (v := I x.c.lo) (by rw [cell_of_row _ _ _ _ _ _ rowW0]; rfl)
 have yW03 := ovr_cell (W := W) (b := w.heap.size) (o := 3) (v := I x.c.hi) (by rw [cell_of_row _ _ _ _ _ _ rowW0]; rfl)
 have yW04 := ovr_cell (W := W) (b := w.heap.size) (o := 4) (v := .slice A x.s.length n) (by rw [cell_of_row _ _ _ _ _ _ rowW0]; rfl)
 have RrowW0 := Lib.hid (ovr_row rowW0)
 clear rowW0
 have rowW1 : W.heap[w.heap.size + 1]? = some (.cells #[I 0, I 0, I 0, I 0, .slice none 0 0] 37 (0, 0)) := by rw [hW]; exact heap_last _ _ _ (by simp)
 have yW10 := ovr_cell (W := W) (b := w.heap.size + 1) (o := 0) (v := I 0) (by rw [cell_of_row _ _ _ _ _ _ rowW1]; rfl)
 have yW11 := ovr_cell (W := W) (b := w.heap.size + 1) (o := 1) (v := I 0) (by rw [cell_of_row _ _ _ _ _ _ rowW1]; rfl)
 have yW12 := ovr_cell (W := W) (b := w.heap.size + 1) (o := 2) (v := I 0) (by rw [cell_of_row _ _ _ _ _ _ rowW1]; rfl)
 have yW13 := ovr_cell (W := W) (b := w.heap.size + 1) (o := 3) (v := I 0) (by rw [cell_of_row _ _ _ _ _ _ rowW1]; rfl)
 have yW14 := ovr_cell (W := W) (b := w.heap.size + 1) (o := 4) (v := .slice none 0 0) (by rw [cell_of_row _ _ _ _ _ _ rowW1]; rfl)
 have RrowW1 := Lib.hid (ovr_row rowW1)
 clear rowW1
 have HUW : Hid (∀ u, Below w.heap.size w (ovr W u)) := U2 hW
 have HW := Lib.hid hW
 clear hW
 go_enter Try.func41, Try.ntmps41
 go_upto_region 1 with (fail)
 rw [← HW.out]
 obtain ⟨u0, hu0⟩ := ovr_self W
 rw [hu0]
 clear hu0
 have hmf := @makeFunc_run Try.prog
 rcases ho : okSh x with _ | _
 · rw [ho, er9_f] at CS
   have HER : Hid (rmEr x l = 2) := by show _ = _; rw [hE.out, if_pos ho]
   go_wp2_with fail
   refine (CS.out _ (HUW.out u0)).mono ?_
   rintro e w1 ⟨rfl, hb1⟩
   obtain ⟨u1, rfl⟩ := ovr_next hb1
   clear hb1
   go_wp2_with (with_reducible show wpList _ _ _ _ _ _; refine wpList_store_row rfl 37 _ _ rfl (w.heap.size + 1) rfl _ _ (RrowW1.out u1) #[I 0, I 0, I 0, I 0, .slice none 0 0] rfl (by simp [Value.oneCell']) rfl (by kernel_rfl) ?_)
   refine bodyPost_ret (results_cell_tmp rfl _ _ (w.heap.size + 1) 37 _ (0, 0) _ rfl (setRow_same ((RrowW1.out u1))) Try.underlying37 rfl (by kernel_rfl)) rfl ?_
   rw [rm_ne HER.out (by decide), HER.out]
   exact ⟨none, 0, rfl, ⟨Nat.le_refl _, Nat.zero_le _⟩, Rd.nil, below_setRow (HUW.out u1) (by omega) _⟩
 rw [ho, er9_t] at CS
 have HO := Lib.hid ho
 go_wp2_with fail
 refine (CS.out _ (HUW.out u0)).mono ?_
 rintro e w1 ⟨rfl, hb1⟩
 obtain ⟨u1, rfl⟩ := ovr_next hb1
 clear hb1
 by_cases h1 : 30 < l.length
 · have HER : Hid (rmEr x l = 5) := by show _ = _; rw [hE.out, if_neg (by rw [ho]; simp), if_pos h1]
   have d1 : decide ((30 : Int) < (l.length : Int)) = true := decide_eq_true (by omega)
   go_wp2_with (with_reducible show wpList _ _ _ _ _ _; refine wpList_store_row rfl 37 _ _ rfl (w.heap.size + 1) rfl _ _ (RrowW1.out u1) #[I 0, I 0, I 0, I 0, .slice none 0 0] rfl (by simp [Value.oneCell']) rfl (by kernel_rfl) ?_)
   refine bodyPost_ret (results_cell_tmp rfl _ _ (w.heap.size + 1) 37 _ (0, 0) _ rfl (setRow_same ((RrowW1.out u1))) Try.underlying37 rfl (by kernel_rfl)) rfl ?_
   rw [rm_ne HER.out (by decide), HER.out]
   exact ⟨none, 0, rfl, ⟨Nat.le_refl _, Nat.zero_le _⟩, Rd.nil, below_setRow (HUW.out u1) (by omega) _⟩
 have d1 : decide ((30 : Int) < (l.length : Int)) = false := decide_eq_false (by omega)
 have h30 : Hid (l.length ≤ 30) := by show _ ≤ _; omega
 have hE : Hid (rmEr x l = if l.any rmB = true then 2 else if srt l (l.length - 1) = false then 9 else rmF (hu9 x.s) x.c l l.length) := by show _ = _; rw [hE.out, if_neg (by rw [ho]; simp), if_neg h1]
 have CC := Lib.hid fun V (hV : Below w.heap.size w V) => con_rm L m l V B HM.out (HRD.out V hV).2.2 (HRD.out V hV).2.1
 rcases h2 : l.any rmB with _ | _ <;> rw [h2] at CC
 case true =>
  have HER : Hid (rmEr x l = 2) := by show _ = _; rw [hE.out, if_pos h2]
  clear h1 ho
  go_wp2_with fail
  refine (CC.out _ (HUW.out u1)).mono ?_
  rintro e w1 ⟨rfl, hb1⟩
  obtain ⟨u2, rfl⟩ := ovr_next hb1
  clear hb1
  go_wp2_with (with_reducible show wpList _ _ _ _ _ _; refine wpList_store_row rfl 37 _ _ rfl (w.heap.size + 1) rfl _ _ (RrowW1.out u2) #[I 0, I 0, I 0, I 0, .slice none 0 0] rfl (by simp [Value.oneCell']) rfl (by kernel_rfl) ?_)
  refine bodyPost_ret (results_cell_tmp rfl _ _ (w.heap.size + 1) 37 _ (0, 0) _ rfl (setRow_same ((RrowW1.out u2))) Try.underlying37 rfl (by kernel_rfl)) rfl ?_
  rw [rm_ne HER.out (by decide), HER.out]
  exact ⟨none, 0, rfl, ⟨Nat.le_refl _, Nat.zero_le _⟩, Rd.nil, below_setRow (HUW.out u2) (by omega) _⟩
 have HVD : Hid (∀ k, k < l.length → rmB (at0 l k) = false) := fun k hk => by
  rcases hq : rmB (at0 l k) with _ | _
  · rfl
  · have : l.any rmB = true := List.any_eq_true.2 ⟨_, by rw [at0_get hk]; exact List.getElem_mem hk, hq⟩
    rw [h2] at this
    cases this
 have hE : Hid (rmEr x l = if srt l (l.length - 1) = false then 9 else rmF (hu9 x.s) x.c l l.length) := by show _ = _; rw [hE.out, if_neg (by rw [h2]; simp)]
 have CQ := Lib.hid fun V (hV : Below w.heap.size w V) => sorted_any L m l V B HM.out (HRD.out V hV).2.2 (HRD.out V hV).2.1 (fun k hk => by have := rmB_no.1 (HVD.out k hk); omega)
 clear h1 h2 ho
 go_wp2_with fail
 refine (CC.out _ (HUW.out u1)).mono ?_
 rintro e w1 ⟨rfl, hb1⟩
 obtain ⟨u2, rfl⟩ := ovr_next hb1
 clear hb1
 rcases h3 : srt l (l.length - 1) with _ | _ <;> rw [h3] at CQ
 · have HER : Hid (rmEr x l = 9) := by show _ = _; rw [hE.out, if_pos h3]
   clear h3
   go_wp2_with fail
   refine (CQ.out _ (HUW.out u2)).mono ?_
   rintro e w1 ⟨rfl, hb1⟩
   obtain ⟨u3, rfl⟩ := ovr_next hb1
   clear hb1
   go_wp2_with (with_reducible show wpList _ _ _ _ _ _; refine wpList_store_row rfl 37 _ _ rfl (w.heap.size + 1) rfl _ _ (RrowW1.out u3) #[I 0, I 0, I 0, I 0, .slice none 0 0] rfl (by simp [Value.oneCell']) rfl (by kernel_rfl) ?_)
   refine bodyPost_ret (results_cell_tmp rfl _ _ (w.heap.size + 1) 37 _ (0, 0) _ rfl (setRow_same ((RrowW1.out u3))) Try.underlying37 rfl (by kernel_rfl)) rfl ?_
   rw [rm_ne HER.out (by decide), HER.out]
   exact ⟨none, 0, rfl, ⟨Nat.le_refl _, Nat.zero_le _⟩, Rd.nil, below_setRow (HUW.out u3) (by omega) _⟩
 have hE : Hid (rmEr x l = rmF (hu9 x.s) x.c l l.length) := by show _ = _; rw [hE.out, if_neg (by rw [h3]; simp)]
 clear h3
 go_wp2_with fail
 refine (CQ.out _ (HUW.out u2)).mono ?_
 rintro e w1 ⟨rfl, hb1⟩
 obtain ⟨u3, rfl⟩ := ovr_next hb1
 clear hb1
 have CH := Lib.hid fun V (hV : Below w.heap.size w V) => hull9_any x A n V B HO.out HN.out (HRD.out V hV).2.2 (HRD.out V hV).1
 go_wp2_with fail
 refine (CH.out _ (HUW.out u3)).mono ?_
 rintro e w1 ⟨rfl, hb1⟩
 obtain ⟨u4, rfl⟩ := ovr_next hb1
 clear hb1
 go_upto_region 10 with fail
 obtain ⟨h, hh⟩ : ∃ h, hu9 x.s = h := ⟨_, rfl⟩
 have hhb := hu9_bd (sh_pos HO.out) (okSh_iff.1 HO.out).2.2.2.1
 have HBD := Lib.hid (rm_bd HO.out HVD.out)
 rw [hh] at hhb hE HBD ⊢
 have HHB := Lib.hid hhb
 obtain ⟨q6, hq6⟩ : ∃ q, q = (ovr W u4).heap.size := ⟨_, rfl⟩
 obtain ⟨V, hV⟩ : ∃ V, V = (ovr W u4).alloc (.cells #[I h.lo, I h.hi] 24) := ⟨_, rfl⟩
 have HW0 : Hid (RmW w x (rmC x.c l 0) (.slice A x.s.length n) h q6 V) := by
  have hbV : Below (ovr W u4).heap.size (ovr W u4) V := by rw [hV]; exact (Below.refl _ _).alloc (Nat.le_refl _) _
  exact ⟨(hbV.block _ (lt_of_row (RrowW0.out u4))).trans (RrowW0.out u4), (hbV.block _ (lt_of_row (RrowW1.out u4))).trans (RrowW1.out u4), by rw [hV]; exact heap_last _ _ _ hq6, (HUW.out u4).trans (hbV.mono (HUW.out u4).size), by rw [hq6]; exact lt_of_row (RrowW1.out u4)⟩
 rw [← hq6, ← hV]
 have HH := Lib.hid hh
 clear hq6 hV hh hhb hmf d1
 go_wp2_with fail
 go_loopw [34, 7] (fun iv sv wr => ∃ k : Nat, k ≤ l.length ∧ iv = .int .i64 k ∧ sv = I (rmSp l k) ∧ rmF h x.c l k = 0 ∧ RmW w x (rmC x.c l k) (.slice A x.s.length n) h q6 wr) (fun iv _ _ => l.length - (intOf iv).toNat)
 case atStart => exact ⟨0, Nat.zero_le _, rfl, rfl, rfl, HW0.out⟩
 case round =>
  obtain ⟨k, hk, rfl, rfl, hf0, hst⟩ := hrel
  rename World => V
  have HS := Lib.hid hst
  have HF0 := Lib.hid hf0
  clear HW0 hst
  have hbd := HBD.out k hk hf0
  by_cases hlt : k < l.length
  case neg =>
   obtain rfl : k = l.length := by omega
   have ki : decide ((l.length : Int) < (l.length : Int)) = false := decide_eq_false (by omega)
   have HER : Hid (rmEr x l = 0) := hE.out.trans hf0
   have hsp := hbd.s
   have h30' := h30.out
   obtain ⟨sp, hsp2⟩ : ∃ s, rmSp l l.length = s := ⟨_, rfl⟩
   obtain ⟨c, hc⟩ : ∃ c, rmC x.c l l.length = c := ⟨_, rfl⟩
   rw [hsp2] at hsp ⊢
   rw [hc] at HS
   have HXX : Hid (rmX x l = ⟨x.w, x.h, c, x.s.map fun r => ⟨r.lo - sp, r.hi + sp⟩⟩) := by
        show _ = _
        unfold rmX
        rw [if_pos HER.out, hsp2, hc]
   have CL := Lib.hid (clone_any A x.s.length n (rR x.s) V V.heap.size (sh_pos HO.out) (by have := sh_small HO.out; omega) (Nat.le_refl _) ((HRD.out V HS.out.bw).1.more (HRD.out V HS.out.bw).2.2))
   have r0 := HS.out.r0
   have y4 := cell_of_row _ _ 4 _ _ _ r0
   change _ = some (Value.slice A x.s.length n) at y4
   clear hlt hk hf0 hbd hsp2 hc r0
   go_wp2_with fail
   refine CL.out.mono ?_
   rintro e V1 ⟨vc, rfl, hown, hb1⟩
   obtain ⟨g, gc, rfl, hgc, hge, hrow⟩ := Row2.of_own hown (sh_pos HO.out)
   have HS1 := Lib.hid (HS.out.below hb1)
   have HG := Lib.hid (And.intro hgc hge)
   have HR0 := Lib.hid hrow
   have hlt0 : Hid (w.heap.size < g ∧ q6 < g) := ⟨Nat.lt_of_lt_of_le (lt_of_row HS.out.r0) hge, Nat.lt_of_lt_of_le (lt_of_row HS.out.r6) hge⟩
   clear y4 CL hown hb1 hgc hge hrow
   have r0 := HS1.out.r0
   have y4 := cell_of_row _ _ 4 _ _ _ r0
   change _ = some (Value.slice A x.s.length n) at y4
   have z4 := frozen_of_row _ _ 4 _ _ r0
   clear r0
   go_upto_region 22 with fail
   refine name_w fun V2 hV2 => ?_
   have HS2 : Hid (RmW w x c (.slice (some ⟨g, 0, none⟩) x.s.length gc) h q6 V2) := by show RmW _ _ _ _ _ _ _; rw [hV2]; exact HS1.out.set rfl
   have HR2 : Hid (Row2 g 24 x.s.length (gS x.s sp 0 0) V2) := by
        rw [hV2]
        obtain ⟨cur, a1, a2⟩ := HR0.out.other (b := w.heap.size) (o := 4) (v := .slice (some ⟨g, 0, none⟩) x.s.length gc) (by have := hlt0.out; omega)
        refine ⟨cur, a1, fun k hk j hj => ?_⟩
        rw [a2 k hk j hj]
        unfold gS
        rw [if_neg (by omega)]
   clear hV2 y4 z4 HS1 HR0
   have r0 := HS2.out.r0
   have y4 := cell_of_row _ _ 4 _ _ _ r0
   change _ = some (Value.slice (some ⟨g, 0, none⟩) x.s.length gc) at y4
   clear r0
   have h36 := sh_small HO.out
   have HSP : Hid (0 ≤ sp ∧ sp ≤ 30000000) := by show _ ∧ _; omega
   clear hsp
   go_wp2_with fail
   clear y4
   go_loopw [99] (fun iv wr => ∃ i : Nat, i ≤ x.s.length ∧ iv = .int .i64 i ∧ RmW w x c (.slice (some ⟨g, 0, none⟩) x.s.length gc) h q6 wr ∧ Row2 g 24 x.s.length (gS x.s sp i 0) wr) (fun iv _ => x.s.length - (intOf iv).toNat)
   case atStart => exact ⟨0, Nat.zero_le _, rfl, HS2.out, HR2.out⟩
   case round =>
        obtain ⟨i, hi, rfl, hst, hrow⟩ := hrel
        rename World => U
        have HU := Lib.hid (And.intro hst hrow)
        clear hst hrow HS2 HR2
        have r0 := HU.out.1.r0
        have y0 := cell_of_row _ _ 0 _ _ _ r0
        have y1 := cell_of_row _ _ 1 _ _ _ r0
        have y2 := cell_of_row _ _ 2 _ _ _ r0
        have y3 := cell_of_row _ _ 3 _ _ _ r0
        have y4 := cell_of_row _ _ 4 _ _ _ r0
        change _ = some (I x.w) at y0
        change _ = some (I x.h) at y1
        change _ = some (I c.lo) at y2
        change _ = some (I c.hi) at y3
        change _ = some (Value.slice (some ⟨g, 0, none⟩) x.s.length gc) at y4
        clear r0
        by_cases hlt : i < x.s.length
        case neg =>
         obtain rfl : i = x.s.length := by omega
         have ki2 : decide ((x.s.length : Int) < (x.s.length : Int)) = false := decide_eq_false (by omega)
         clear hlt hi
         have HR1 := Lib.hid HU.out.1.r1
         go_wp2_with (with_reducible show wpList _ _ _ _ _ _; refine wpList_store_row rfl 37 _ _ rfl (w.heap.size + 1) rfl _ _ HR1.out #[I x.w, I x.h, I c.lo, I c.hi, .slice (some ⟨g, 0, none⟩) x.s.length gc] rfl (by simp [Value.oneCell']) rfl (by kernel_rfl) ?_)
         refine bodyPost_ret (results_cell_tmp rfl _ _ (w.heap.size + 1) 37 _ (0, 0) _ rfl (setRow_same (HR1.out)) Try.underlying37 rfl (by kernel_rfl)) rfl ?_
         rw [HXX.out, HER.out]
         refine ⟨some ⟨g, 0, none⟩, gc, ?_, ?_, ?_, below_setRow HU.out.1.bw (by omega) _⟩
         · show _ = Ending.returned (.tuple #[.agg #[I x.w, I x.h, I c.lo, I c.hi, .slice (some ⟨g, 0, none⟩) (x.s.map fun r => (⟨r.lo - sp, r.hi + sp⟩ : Rng)).length gc], I 0])
           rw [List.length_map]
           rfl
         · show (x.s.map fun r => (⟨r.lo - sp, r.hi + sp⟩ : Rng)).length ≤ _ ∧ _
           rw [List.length_map]
           exact HG.out.1
         · show Rd _ _ _ _ (x.s.map fun r => (⟨r.lo - sp, r.hi + sp⟩ : Rng)).length (rR (x.s.map fun r => (⟨r.lo - sp, r.hi + sp⟩ : Rng)))
           rw [List.length_map]
           refine Rd.cong9 (rd_set9 HU.out.2.rd (k := g) (fun a ha => by injection ha with ha; rw [← ha]; exact Nat.le_refl _) (by have := hlt0.out; have := HU.out.1.lt; omega) _) fun k hk j hj => ?_
           unfold gS rR
           rw [if_pos (.inl hk), at0_get (xs := x.s.map fun r => (⟨r.lo - sp, r.hi + sp⟩ : Rng)) (by simpa using hk), List.getElem_map, at0_get hk]
           match j, hj with
           | 0, _ => rfl
           | 1, _ => rfl
        have HLI := Lib.hid hlt
        have ki2 : decide ((i : Int) < (x.s.length : Int)) = true := decide_eq_true (by omega)
        have e0 := HU.out.2.cell (k := i) (j := 0) hlt (by omega)
        have e1 := HU.out.2.cell (k := i) (j := 1) hlt (by omega)
        have q0 : gS x.s sp i 0 i 0 = I (at0 x.s i).lo := by unfold gS; rw [if_neg (by omega)]; rfl
        have q1 : gS x.s sp i 0 i 1 = I (at0 x.s i).hi := by unfold gS; rw [if_neg (by omega)]; rfl
        rw [q0, Nat.add_zero] at e0
        rw [q1] at e1
        have hz := sh_z HO.out i hlt
        have HA0 : Hid (∀ k j, gS x.s sp i 1 k j = if k = i ∧ j = 0 then I ((at0 x.s i).lo - sp) else gS x.s sp i 0 k j) := fun k j => by
         unfold gS
         by_cases h1 : k = i ∧ j = 0
         · obtain ⟨rfl, rfl⟩ := h1
           simp
         · rw [if_neg h1]
           by_cases h2 : k < i ∨ (k = i ∧ j < 0)
           · rw [if_pos h2, if_pos (by omega)]
           · rw [if_neg h2, if_neg (by omega)]
        have HA1 : Hid (∀ k j, j < 2 → gS x.s sp (i + 1) 0 k j = if k = i ∧ j = 1 then I ((at0 x.s i).hi + sp) else gS x.s sp i 1 k j) := fun k j hj => by
         unfold gS
         by_cases h1 : k = i ∧ j = 1
         · obtain ⟨rfl, rfl⟩ := h1
           simp
         · rw [if_neg h1]
           by_cases h2 : k < i ∨ (k = i ∧ j < 1)
           · rw [if_pos h2, if_pos (by omega)]
           · rw [if_neg h2, if_neg (by omega)]
        obtain ⟨p, hp⟩ : ∃ p, at0 x.s i = p := ⟨_, rfl⟩
        rw [hp] at e0 e1 hz HA0 HA1 q1
        have HQ1 := Lib.hid q1
        have z0 := HU.out.2.frozen (i * 2)
        have kA : IntKind.i64.wrap (p.lo - sp) = p.lo - sp := IntWalk.i64_in _ (by have := HSP.out; omega)
        have kB : IntKind.i64.wrap (p.hi + sp) = p.hi + sp := IntWalk.i64_in _ (by have := HSP.out; omega)
        have hi36 : i ≤ 36 := by omega
        clear hp q0 q1 hz hi
        go_upto_region 26 with fail
        refine name_w fun U1 hU1 => ?_
        have HU1 : Hid (RmW w x c (.slice (some ⟨g, 0, none⟩) x.s.length gc) h q6 U1 ∧ Row2 g 24 x.s.length (gS x.s sp i 1) U1) := by
         rw [hU1]
         refine ⟨HU.out.1.other hlt0.out.1 hlt0.out.2, HU.out.2.set (i := i) (m := 0) HLI.out (by omega) (by rw [HA0.out, if_pos ⟨rfl, rfl⟩]) fun k hk j hj hn => by rw [HA0.out, if_neg hn]⟩
        clear hU1 e0 e1 z0 y0 y1 y2 y3 y4 HU
        have r0 := HU1.out.1.r0
        have y4 := cell_of_row _ _ 4 _ _ _ r0
        change _ = some (Value.slice (some ⟨g, 0, none⟩) x.s.length gc) at y4
        have e1 := HU1.out.2.cell (k := i) (j := 1) HLI.out (by omega)
        have q1 : gS x.s sp i 1 i 1 = I p.hi := by
         have := HA0.out i 1
         rw [if_neg (by omega)] at this
         rw [this]
         exact HQ1.out
        rw [q1] at e1
        have z1 := HU1.out.2.frozen (i * 2 + 1)
        clear r0 q1
        go_wp2_with fail
        refine ⟨⟨i + 1, HLI.out, by go_num, HU1.out.1.other hlt0.out.1 hlt0.out.2, HU1.out.2.set (i := i) (m := 1) HLI.out (by omega) (by rw [HA1.out _ _ (by omega), if_pos ⟨rfl, rfl⟩]) fun k hk j hj hn => by rw [HA1.out _ _ hj, if_neg hn]⟩, ?_⟩
        have := HLI.out
        simp [intOf]
        omega
  have HLT := Lib.hid hlt
  have hk30 : k ≤ 30 := by have := h30.out; omega
  have ki : decide ((k : Int) < (l.length : Int)) = true := decide_eq_true (by omega)
  obtain ⟨lb, lo, rfl, _, e0, e1, e2, e3⟩ := rd_rmv (HRD.out V HS.out.bw).2.1 hlt
  have hrv := rmB_no.1 (HVD.out k hlt)
  have HC1 : Hid (rmC x.c l (k + 1) = ⟨(rmC x.c l k).lo - (at0 l k).a.hi, (rmC x.c l k).hi - (at0 l k).a.lo⟩ ∧ rmSp l (k + 1) = rmSp l k + (at0 l k).s) := ⟨rfl, rfl⟩
  have HF1 : Hid (rmF h x.c l (k + 1) = rmE h (rmC x.c l (k + 1)) (rmSp l (k + 1))) := by
   have : rmF h x.c l (k + 1) = if rmF h x.c l k ≠ 0 then rmF h x.c l k else rmE h (rmC x.c l (k + 1)) (rmSp l (k + 1)) := rfl
   show _ = _
   rw [this, hf0, if_neg (by simp)]
  obtain ⟨r, hr⟩ : ∃ r, at0 l k = r := ⟨_, rfl⟩
  obtain ⟨c, hc⟩ : ∃ c, rmC x.c l k = c := ⟨_, rfl⟩
  obtain ⟨s, hs⟩ : ∃ s, rmSp l k = s := ⟨_, rfl⟩
  rw [hr] at e0 e1 e2 e3 hrv HC1
  rw [hc] at hbd HS HC1
  rw [hs] at hbd HC1 ⊢
  clear hr hc hs hk hf0
  go_upto_region 13 with fail
  obtain ⟨q9, hq9⟩ : ∃ q, q = V.heap.size := ⟨_, rfl⟩
  obtain ⟨Y, hY⟩ : ∃ Y, Y = V.alloc (.cells (rmA r) 88) := ⟨_, rfl⟩
  have hbY : Below V.heap.size V Y := by rw [hY]; exact (Below.refl _ _).alloc (Nat.le_refl _) _
  have r9 : Y.heap[q9]? = some (.cells (rmA r) 88 (0, 0)) := by rw [hY]; exact heap_last _ _ _ hq9
  have HS1 := Lib.hid (HS.out.below hbY)
  have hq9n : Hid (w.heap.size < q9) := by show _ < _; rw [hq9]; exact lt_of_row HS.out.r0
  rw [← hq9, ← hY]
  have r0 := HS1.out.r0
  have y2 := cell_of_row _ _ 2 _ _ _ r0
  change _ = some (I c.lo) at y2
  have z2 := frozen_of_row _ _ 2 _ _ r0
  have v2 := cell_of_row _ _ 2 _ _ _ r9
  change _ = some (I r.a.hi) at v2
  have b1 := hbd.lo
  have b2 := hbd.s
  have kA : IntKind.i64.wrap (c.lo - r.a.hi) = c.lo - r.a.hi := IntWalk.i64_in _ (by omega)
  have kB : IntKind.i64.wrap (c.hi - r.a.lo) = c.hi - r.a.lo := IntWalk.i64_in _ (by omega)
  have kC : IntKind.i64.wrap (s + r.s) = s + r.s := IntWalk.i64_in _ (by omega)
  have HR9 := Lib.hid r9
  clear hq9 hY hbY r0 r9 e0 e1 e2 e3
  go_upto_region 14 with fail
  refine name_w fun Y1 hY1 => ?_
  have HS2 : Hid (RmW w x ⟨c.lo - r.a.hi, c.hi⟩ (.slice A x.s.length n) h q6 Y1) := by show RmW _ _ _ _ _ _ _; rw [hY1]; exact HS1.out.set rfl
  have HR9b : Hid (Y1.heap[q9]? = some (.cells (rmA r) 88 (0, 0))) := by show _ = _; rw [hY1]; exact sc_other HR9.out (by have := hq9n.out; omega)
  clear hY1 y2 z2 v2 HR9 HS1
  have r0 := HS2.out.r0
  have y3 := cell_of_row _ _ 3 _ _ _ r0
  change _ = some (I c.hi) at y3
  have z3 := frozen_of_row _ _ 3 _ _ r0
  have r9 := HR9b.out
  have v1 := cell_of_row _ _ 1 _ _ _ r9
  change _ = some (I r.a.lo) at v1
  clear r0 r9
  go_upto_region 15 with fail
  refine name_w fun Y2 hY2 => ?_
  have HS3 : Hid (RmW w x ⟨c.lo - r.a.hi, c.hi - r.a.lo⟩ (.slice A x.s.length n) h q6 Y2) := by show RmW _ _ _ _ _ _ _; rw [hY2]; exact HS2.out.set rfl
  have HR9c : Hid (Y2.heap[q9]? = some (.cells (rmA r) 88 (0, 0))) := by show _ = _; rw [hY2]; exact sc_other HR9b.out (by have := hq9n.out; omega)
  clear hY2 y3 z3 v1 HR9b HS2
  have r9 := HR9c.out
  have v3 := cell_of_row _ _ 3 _ _ _ r9
  change _ = some (I r.s) at v3
  have r0 := HS3.out.r0
  have r6 := HS3.out.r6
  have y2 := cell_of_row _ _ 2 _ _ _ r0
  change _ = some (I (c.lo - r.a.hi)) at y2
  have h0 := cell_of_row _ _ 0 _ _ _ r6
  change _ = some (I h.lo) at h0
  have h1 := cell_of_row _ _ 1 _ _ _ r6
  change _ = some (I h.hi) at h1
  have hhb := HHB.out
  obtain ⟨C, hC⟩ : ∃ C, C = c.lo - r.a.hi := ⟨_, rfl⟩
  obtain ⟨D, hD⟩ : ∃ D, D = c.hi - r.a.lo := ⟨_, rfl⟩
  obtain ⟨S, hS⟩ : ∃ S, S = s + r.s := ⟨_, rfl⟩
  have bC : -10000000 ≤ C ∧ C ≤ 10000000 := by omega
  have bS : 0 ≤ S ∧ S ≤ 40000000 := by omega
  rw [← hC] at y2 HS3
  rw [← hD] at HS3
  have kC := kC.trans hS.symm
  have HSS := Lib.hid hS
  have HC1 : Hid (rmC x.c l (k + 1) = ⟨C, D⟩ ∧ rmSp l (k + 1) = S) := by rw [hC, hD, hS]; exact HC1.out
  have HF1 : Hid (rmF h x.c l (k + 1) = rmE h ⟨C, D⟩ S) := by show _ = _; rw [HF1.out, HC1.out.1, HC1.out.2]
  have kD : IntKind.i64.wrap (C + h.lo) = C + h.lo := IntWalk.i64_in _ (by omega)
  have kE : IntKind.i64.wrap (C + h.lo - S) = C + h.lo - S := IntWalk.i64_in _ (by omega)
  have kF : IntKind.i64.wrap (h.lo - S) = h.lo - S := IntWalk.i64_in _ (by omega)
  have kG : IntKind.i64.wrap (h.hi + S) = h.hi + S := IntWalk.i64_in _ (by omega)
  clear kA kB r9 r0 r6 hC hD hS hrv b1 b2 hbd
  have HBAD : Hid (∀ er : Int, rmE h ⟨C, D⟩ S = er → er ≠ 0 → rmEr x l = er) := fun er he h0 => by
   have h1 : rmF h x.c l (k + 1) = er := HF1.out.trans he
   have := rmF_none (show rmF h x.c l (k + 1) ≠ 0 by rw [h1]; exact h0) l.length HLT.out
   rw [hE.out, this, h1]
  have HQ1 := Lib.hid HS3.out.r1
  go_upto_region 16 with fail
  by_cases g1 : C < 0
  · have HER : Hid (rmEr x l = 91) := HBAD.out 91 (by unfold rmE; rw [if_pos (.inl g1)]) (by decide)
    have d1 : decide (C < 0) = true := decide_eq_true g1
    go_wp2_with (with_reducible show wpList _ _ _ _ _ _; refine wpList_store_row rfl 37 _ _ rfl (w.heap.size + 1) rfl _ _ HQ1.out #[I 0, I 0, I 0, I 0, .slice none 0 0] rfl (by simp [Value.oneCell']) rfl (by kernel_rfl) ?_)
    refine bodyPost_ret (results_cell_tmp rfl _ _ (w.heap.size + 1) 37 _ (0, 0) _ rfl (setRow_same (HQ1.out)) Try.underlying37 rfl (by kernel_rfl)) rfl ?_
    rw [rm_ne HER.out (by decide), HER.out]
    exact ⟨none, 0, rfl, ⟨Nat.le_refl _, Nat.zero_le _⟩, Rd.nil, below_setRow (HS3.out.bw) (by omega) _⟩
  have d1 : decide (C < 0) = false := decide_eq_false g1
  by_cases g2 : C + h.lo - S < 0
  · have HER : Hid (rmEr x l = 91) := HBAD.out 91 (by unfold rmE; rw [if_pos (.inr g2)]) (by decide)
    have d2 : decide (C + h.lo - S < 0) = true := decide_eq_true g2
    go_wp2_with (with_reducible show wpList _ _ _ _ _ _; refine wpList_store_row rfl 37 _ _ rfl (w.heap.size + 1) rfl _ _ HQ1.out #[I 0, I 0, I 0, I 0, .slice none 0 0] rfl (by simp [Value.oneCell']) rfl (by kernel_rfl) ?_)
    refine bodyPost_ret (results_cell_tmp rfl _ _ (w.heap.size + 1) 37 _ (0, 0) _ rfl (setRow_same (HQ1.out)) Try.underlying37 rfl (by kernel_rfl)) rfl ?_
    rw [rm_ne HER.out (by decide), HER.out]
    exact ⟨none, 0, rfl, ⟨Nat.le_refl _, Nat.zero_le _⟩, Rd.nil, below_setRow (HS3.out.bw) (by omega) _⟩
  have d2 : decide (C + h.lo - S < 0) = false := decide_eq_false g2
  have g12 : ¬ (C < 0 ∨ C + h.lo - S < 0) := fun h => h.elim g1 g2
  by_cases g3 : h.lo - S < -1000000
  · have HER : Hid (rmEr x l = 10) := HBAD.out 10 (by unfold rmE; rw [if_neg g12, if_pos (.inl g3)]) (by decide)
    have d3 : decide (h.lo - S < -1000000) = true := decide_eq_true g3
    clear g12
    go_wp2_with (with_reducible show wpList _ _ _ _ _ _; refine wpList_store_row rfl 37 _ _ rfl (w.heap.size + 1) rfl _ _ HQ1.out #[I 0, I 0, I 0, I 0, .slice none 0 0] rfl (by simp [Value.oneCell']) rfl (by kernel_rfl) ?_)
    refine bodyPost_ret (results_cell_tmp rfl _ _ (w.heap.size + 1) 37 _ (0, 0) _ rfl (setRow_same (HQ1.out)) Try.underlying37 rfl (by kernel_rfl)) rfl ?_
    rw [rm_ne HER.out (by decide), HER.out]
    exact ⟨none, 0, rfl, ⟨Nat.le_refl _, Nat.zero_le _⟩, Rd.nil, below_setRow (HS3.out.bw) (by omega) _⟩
  have d3 : decide (h.lo - S < -1000000) = false := decide_eq_false g3
  by_cases g4 : 1000000 < h.hi + S
  · have HER : Hid (rmEr x l = 10) := HBAD.out 10 (by unfold rmE; rw [if_neg g12, if_pos (.inr g4)]) (by decide)
    have d4 : decide (1000000 < h.hi + S) = true := decide_eq_true g4
    clear g12
    go_wp2_with (with_reducible show wpList _ _ _ _ _ _; refine wpList_store_row rfl 37 _ _ rfl (w.heap.size + 1) rfl _ _ HQ1.out #[I 0, I 0, I 0, I 0, .slice none 0 0] rfl (by simp [Value.oneCell']) rfl (by kernel_rfl) ?_)
    refine bodyPost_ret (results_cell_tmp rfl _ _ (w.heap.size + 1) 37 _ (0, 0) _ rfl (setRow_same (HQ1.out)) Try.underlying37 rfl (by kernel_rfl)) rfl ?_
    rw [rm_ne HER.out (by decide), HER.out]
    exact ⟨none, 0, rfl, ⟨Nat.le_refl _, Nat.zero_le _⟩, Rd.nil, below_setRow (HS3.out.bw) (by omega) _⟩
  have d4 : decide (1000000 < h.hi + S) = false := decide_eq_false g4
  have HNO : Hid (rmF h x.c l (k + 1) = 0) := by
   show _ = _
   rw [HF1.out]
   unfold rmE
   rw [if_neg g12, if_neg (fun h => h.elim g3 g4)]
  clear g12
  go_wp2_with fail
  go_roundw
  case rel => exact ⟨k + 1, HLT.out, by go_num, by rw [HC1.out.2]; first | rfl | rw [HSS.out], HNO.out, by rw [HC1.out.1]; exact HS3.out⟩
  case measure => have := HLT.out; simp [intOf]; omega
end Go.Proofs.Ytljjpidigckheaa.Un
