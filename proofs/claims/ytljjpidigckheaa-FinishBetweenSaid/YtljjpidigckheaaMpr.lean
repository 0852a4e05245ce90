/- A map from integers to truth values, as a function (over the kit's laws of maps of one's own). Apart of package finish: the check of what was treated, and the plain law of the sums. Plain law of Apart: what is in one list alone, and sums in whatever order. -/
import Derived.Test.YtljjpidigckheaaKn
import Derived.Maps.RangeWalk
import Derived.Maps.Views
namespace Go.Proofs.Ytljjpidigckheaa.Un
open Go.RowKit
open Go.Maps
open Go.ChangeMaps (setBlock)
theorem kI : Keyed Try.prog 3 := int_keyed Try.underlying3
set_option maxRecDepth 100000 in
theorem bool_inv {v : Value} {z : DataW Unit × List MemPlace} (h : plainElem Try.prog 4 v = some z) : ∃ x, v = .bool x ∧ z = (.lit (.bool x), []) := by
 unfold plainElem at h
 rw [Try.underlying4] at h
 cases v <;> simp at h
 exact ⟨_, rfl, h.symm⟩
def kL (k : Nat) : Lit := .int .i64 (k : Int)
theorem kL_wf {k : Nat} (h : k ≤ 1000000) : (Lit.int .i64 (k : Int)).wf = true := by
 have h1 : IntKind.i64.min = -9223372036854775808 := by decide
 have h2 : IntKind.i64.max = 9223372036854775807 := by decide
 simp only [Lit.wf, h1, h2, Bool.and_eq_true, decide_eq_true_eq]
 omega
theorem kL_key {k : Nat} (h : k ≤ 1000000) : keyOf Try.prog 3 (I (k : Int)) = some (kL k) := keyOf_int_mk Try.underlying3 (kL_wf h)
theorem kL_inj {k m : Nat} (h : kL k = kL m) : k = m := by
 unfold kL at h
 injection h with _ h
 omega
def MB (w : World) (b n : Nat) (f : Nat → Option Bool) : Prop := ∃ D : DataW Unit, w.ownsMap Try.prog 3 (plainElem Try.prog 4) b n D ∧
 (∀ k : Nat, k ≤ 1000000 → ∀ z, D.atKey (kL k) z = match f k with | some v => .lit (.bool v) | none => z) ∧ (∀ kl, has D kl = true → ∃ k : Nat, k ≤ 1000000 ∧ kl = kL k)
def upB (f : Nat → Option Bool) (k : Nat) (v : Option Bool) : Nat → Option Bool := fun m => if m = k then v else f m
theorem MB.kept {w w' : World} {b n : Nat} {f : Nat → Option Bool} {row : Option Nat} (h : MB w b n f) (hg : w.grownBy w' row) (hn : some b ≠ row) : MB w' b n f := by
 obtain ⟨D, h1, h2⟩ := h
 exact ⟨D, h1.kept hg hn, h2⟩
theorem MB.below {w w' : World} {b n : Nat} {f : Nat → Option Bool} (h : MB w b n f) (hb : Below w.heap.size w w') : MB w' b n f := h.kept (le_grown hb none) (by simp)
theorem MB.lt {w : World} {b n : Nat} {f : Nat → Option Bool} (h : MB w b n f) : b < w.heap.size := by
 obtain ⟨D, h1, _⟩ := h
 exact h1.lt
theorem MB.made (w : World) : MB (w.alloc (.map #[] 0)) w.heap.size 0 (fun _ => none) :=
 ⟨.map [], World.ownsMap_made w _ _ _, fun _ _ _ => rfl, fun kl h => (by cases h)⟩
set_option maxRecDepth 100000 in
theorem MB.put {w : World} {b n : Nat} {f : Nat → Option Bool} (h : MB w b n f) (hn : n ≤ 1000) {k : Nat} (hk : k ≤ 1000000) (v : Bool) : ∃ w', (Instr.mapUpdate 151 (.map (some b)) (I (k : Int)) (.bool v)).run Try.prog w = .ok () w' ∧ MB w' b (n + 1) (upB f k (some v)) ∧ w.grownBy w' (some b) := by
 obtain ⟨D, h1, h2, h3⟩ := h
 obtain ⟨w', hr, h4, h5⟩ := h1.update kI Try.underlying151 (by unfold maxLen; omega) (kL_key hk) (plainElem_bool Try.underlying4 v)
 refine ⟨w', hr, ⟨_, h4, fun m hm z => ?_, fun kl hkl => ?_⟩, h5⟩
 · unfold upB
   by_cases he : m = k
   · subst he
     rw [if_pos rfl]
     exact atKey_put_same h1.isMap (kI.key (kL_key hk)) _ _
   · rw [if_neg he, atKey_put_other (fun h => he (kL_inj h))]
     exact h2 m hm z
 · by_cases he : kl = kL k
   · exact ⟨k, hk, he⟩
   · rw [has_put_other he] at hkl
     exact h3 kl hkl
set_option maxRecDepth 100000 in
theorem MB.look {w : World} {b n : Nat} {f : Nat → Option Bool} (h : MB w b n f) {k : Nat} (hk : k ≤ 1000000) : (Instr.lookup 151 (.map (some b)) (I (k : Int)) false).run Try.prog w = .ok (.bool ((f k).getD false)) w := by
 obtain ⟨D, h1, h2, _⟩ := h
 obtain ⟨v, ps, hr, hv⟩ := h1.lookup kI Try.underlying151 (z := .bool false) (by kernel_rfl) (plainElem_bool Try.underlying4 false) (kL_key hk)
 obtain ⟨x, rfl, hx⟩ := bool_inv hv
 rw [hr]
 rw [h2 k hk] at hx
 injection hx with hx _
 cases hq : f k with
 | none =>
   rw [hq] at hx
   injection hx with hx
   injection hx with hx
   rw [← hx]
   rfl
 | some y =>
   rw [hq] at hx
   injection hx with hx
   injection hx with hx
   rw [← hx]
   rfl
set_option maxRecDepth 100000 in
theorem MB.drop {w : World} {b n : Nat} {f : Nat → Option Bool} (h : MB w b n f) {k : Nat} (hk : k ≤ 1000000) (ty : TypeId) : ∃ w', (Builtin.delete_ #[151, 3] ty #[.map (some b), I (k : Int)]).run Try.prog w = .ok (.tuple #[]) w' ∧ MB w' b n (upB f k none) ∧ w.grownBy w' (some b) := by
 obtain ⟨D, h1, h2, h3⟩ := h
 obtain ⟨w', hr, h4, h5⟩ := h1.drop kI Try.underlying151 (kL_key hk) ty
 refine ⟨w', hr, ⟨_, h4, fun m hm z => ?_, fun kl hkl => ?_⟩, h5.grown⟩
 · unfold upB
   by_cases he : m = k
   · subst he
     rw [if_pos rfl]
     exact atKey_del_same _
   · rw [if_neg he, atKey_del_other (fun h => he (kL_inj h))]
     exact h2 m hm z
 · by_cases he : kl = kL k
   · exact ⟨k, hk, he⟩
   · rw [has_del_other he] at hkl
     exact h3 kl hkl
def MR (w : World) (b r n : Nat) (f : Nat → Option Bool) (left : Nat → Bool) (cnt : Nat) : Prop := ∃ (D : DataW Unit) (lf : Lit → Bool), w.ranges Try.prog 3 (plainElem Try.prog 4) b r n D lf cnt ∧
 (∀ k : Nat, k ≤ 1000000 → ∀ z, D.atKey (kL k) z = match f k with | some v => .lit (.bool v) | none => z) ∧ (∀ kl, has D kl = true → ∃ k : Nat, k ≤ 1000000 ∧ kl = kL k) ∧ (∀ k : Nat, k ≤ 1000000 → lf (kL k) = left k) ∧ (∀ kl, lf kl = true → has D kl = true)
theorem MB.range {w : World} {b n : Nat} {f : Nat → Option Bool} (h : MB w b n f) : ∃ w' cnt, (Instr.range 151 (.map (some b))).run Try.prog w = .ok (.pointer (some ⟨w.heap.size, 0, none⟩)) w' ∧ MR w' b w.heap.size n f (fun k => (f k).isSome) cnt ∧ w.grownBy w' none ∧ w'.heap.size = w.heap.size + 1 := by
 obtain ⟨D, h1, h2, h3⟩ := h
 obtain ⟨w', hr, h4, h5, h6⟩ := h1.range kI Try.underlying151
 refine ⟨w', _, hr, ⟨D, _, h4, h2, h3, fun k hk => ?_, fun kl h => h⟩, h5, h6⟩
 cases hq : f k with
 | none =>
   show has D (kL k) = (f k).isSome
   rw [hq]
   refine has_false_of_atKey fun z => ?_
   rw [h2 k hk, hq]
 | some y =>
   show has D (kL k) = (f k).isSome
   rw [hq]
   refine has_true_of_atKey (y := .lit (.bool y)) fun z => ?_
   rw [h2 k hk, hq]
theorem MR.kept {w w' : World} {b r n cnt : Nat} {f : Nat → Option Bool} {left : Nat → Bool} {row : Option Nat} (h : MR w b r n f left cnt) (hg : w.grownBy w' row) (h1 : some b ≠ row) (h2 : some r ≠ row) : MR w' b r n f left cnt := by
 obtain ⟨D, lf, h3, h4⟩ := h
 exact ⟨D, lf, h3.kept hg h1 h2, h4⟩
theorem MR.lt {w : World} {b r n cnt : Nat} {f : Nat → Option Bool} {left : Nat → Bool} (h : MR w b r n f left cnt) : b < w.heap.size ∧ r < w.heap.size ∧ r ≠ b := by
 obtain ⟨D, lf, h3, _⟩ := h
 exact ⟨h3.owns.lt, h3.lt, h3.ne⟩
theorem MR.left_eq {w : World} {b r n cnt : Nat} {f : Nat → Option Bool} {left : Nat → Bool} (h : MR w b r n f left cnt) : w.rangeLeft b r = cnt := by
 obtain ⟨D, lf, h3, _⟩ := h
 exact h3.left_eq
set_option maxRecDepth 100000 in
theorem MR.next {w : World} {b r n cnt : Nat} {f : Nat → Option Bool} {left : Nat → Bool} (h : MR w b r n f left cnt) (ty : TypeId) :
 (cnt = 0 ∧ (∀ k, k ≤ 1000000 → left k = false) ∧ (Instr.next (.pointer (some ⟨r, 0, none⟩)) false ty).run Try.prog w = .ok (.tuple #[.bool false]) w) ∨
 ∃ (k : Nat) (v : Bool) (w' : World) (cnt' : Nat), k ≤ 1000000 ∧ left k = true ∧ f k = some v ∧ (Instr.next (.pointer (some ⟨r, 0, none⟩)) false ty).run Try.prog w = .ok (.tuple #[.bool true, I (k : Int), .bool v]) w' ∧
   MR w' b r n f (fun m => left m && !decide (m = k)) cnt' ∧ cnt' < cnt ∧ w.grownBy w' (some r) ∧ w'.heap.size = w.heap.size ∧ (Instr.entry (.pointer (some ⟨r, 0, none⟩))).run Try.prog w' = .ok (.tuple #[I (k : Int), .bool v]) w' := by
 obtain ⟨D, lf, h1, h2, h3, h4, h5⟩ := h
 rcases h1.next kI ty with ⟨ha, hb, hc⟩ | ⟨key, v, kl, y, w', cnt', hkey, hlk, hv, hat, hrun, hrg, hlt, hgr, hsz, hen⟩
 · exact .inl ⟨ha, fun k hk => by rw [← h4 k hk]; exact hb _, hc⟩
 · obtain ⟨k, hk, rfl⟩ := h3 kl (h5 kl hlk)
   obtain ⟨x, rfl, e1, _⟩ := keyOf_int_inv Try.underlying3 hkey
   obtain ⟨c, rfl, e2⟩ := bool_inv hv
   unfold kL at e1
   injection e1 with _ e1
   subst e1
   have hf : f k = some c := by
    have e3 := hat .nil
    rw [h2 k hk, e2] at e3
    cases hq : f k with
    | none => rw [hq] at e3; cases e3
    | some u =>
      rw [hq] at e3
      injection e3 with e3
      injection e3 with e3
      rw [e3]
   refine .inr ⟨k, c, w', cnt', hk, by rw [← h4 k hk]; exact hlk, hf, hrun, ⟨D, _, hrg, h2, h3, fun m hm => ?_, fun kl hkl => h5 kl (by simp at hkl; exact hkl.1)⟩, hlt, hgr, hsz, hen⟩
   show (lf (kL m) && !(kL m).sameKey (kL k)) = _
   rw [h4 m hm]
   congr 1
   by_cases he : m = k
   · subst he
     rw [Go.WideAt.sameKey_self (kI.key (kL_key hk))]
     simp
   · rw [sameKey_ne (fun h => he (kL_inj h))]
     simp [he]
end Go.Proofs.Ytljjpidigckheaa.Un
namespace Go.Proofs.Ytljjpidigckheaa.Un
open Go.RowKit
structure Trt where
 s : Rng
 b : List Int
def trB (n : Nat) (b : List Int) (k : Nat) : Bool := decide (0 ≤ at0 b k) && (decide (at0 b k < (n : Int)) && (decide (k = 0) || decide (at0 b (k - 1) < at0 b k)))
def trQ (n : Nat) (b : List Int) : Nat → Bool
 | 0 => true | k + 1 => trQ n b k && trB n b k
def trtOk (n : Nat) (t : Trt) : Bool := trQ n t.b t.b.length && spn9 t.s 0 10000000
theorem trB_iff {n : Nat} {b : List Int} {k : Nat} : trB n b k = true ↔ 0 ≤ at0 b k ∧ at0 b k < (n : Int) ∧ (k = 0 ∨ at0 b (k - 1) < at0 b k) := by
 unfold trB
 simp only [Bool.and_eq_true, Bool.or_eq_true, decide_eq_true_eq]
theorem trQ_iff {n : Nat} {b : List Int} : ∀ {m : Nat}, trQ n b m = true ↔ ∀ k, k < m → trB n b k = true
 | 0 => ⟨fun _ k hk => absurd hk (by omega), fun _ => rfl⟩
 | m + 1 => by
   unfold trQ
   rw [Bool.and_eq_true, trQ_iff (m := m)]
   refine ⟨fun h k hk => ?_, fun h => ⟨fun k hk => h k (by omega), h m (by omega)⟩⟩
   rcases Nat.lt_or_ge k m with h1 | h1
   · exact h.1 k h1
   · obtain rfl : k = m := by omega
     exact h.2
set_option maxRecDepth 100000 in
set_option maxHeartbeats 4000000 in
theorem apart1_any (t : Trt) (bs : List Rng) (BA : Option Addr) (bn : Nat) (A : Option Addr) (n q : Nat) (w : World) (B : Nat) (hB : B ≤ w.heap.size) (hx : Rd w B 1 A t.b.length (rI t.b)) (hm : t.b.length ≤ 1000 ∧ bs.length ≤ 1000) (hq : q < w.heap.size) (hc : w.cell? ⟨q, 0, none⟩ = some (.slice BA bs.length bn)) :
 Calls Try.prog 73 #[.agg #[I t.s.lo, I t.s.hi, .slice A t.b.length n], .pointer (some ⟨q, 0, none⟩)] w fun e w' => e = .returned (.bool (!trtOk bs.length t)) ∧ Below w.heap.size w w' := by
 have HRD : Hid (∀ V, Below w.heap.size w V → Rd V B 1 A t.b.length (rI t.b)) := fun V hV => hx.below (hV.mono hB)
 have HM := Lib.hid hm
 have HQQ : Hid (∀ V, Below w.heap.size w V → V.cell? ⟨q, 0, none⟩ = some (.slice BA bs.length bn)) := fun V hV => (hV.cell (p := ⟨q, 0, none⟩) hq).trans hc
 have HT : Hid (trtOk bs.length t = (trQ bs.length t.b t.b.length && spn9 t.s 0 10000000)) := rfl
 clear hx hB hm hq hc
 obtain ⟨W, hW⟩ : ∃ W, W = (w.alloc (.cells #[I t.s.lo, I t.s.hi, .slice A t.b.length n] 72)) := ⟨_, rfl⟩
 have rowW0 : W.heap[w.heap.size]? = some (.cells #[I t.s.lo, I t.s.hi, .slice A t.b.length n] 72 (0, 0)) := by rw [hW]; exact heap_last _ _ _ rfl
 have yW00 := ovr_cell (W := W) (b := w.heap.size) (o := 0) (v := I t.s.lo) (by rw [cell_of_row _ _ _ _ _ _ rowW0]; rfl)
 have yW01 := ovr_cell (W := W) (b := w.heap.size) (o := 1) (v := I t.s.hi) (by rw [cell_of_row _ _ _ _ _ _ rowW0]; rfl)
 have yW02 := ovr_cell (W := W) (b := w.heap.size) (o := 2) (v := .slice A t.b.length n) (by rw [cell_of_row _ _ _ _ _ _ rowW0]; rfl)
 have RrowW0 := Lib.hid (ovr_row rowW0)
 clear rowW0
 have HUW : Hid (∀ u, Below w.heap.size w (ovr W u)) := U1 hW
 have HW := Lib.hid hW
 clear hW
 have yq : ∀ u, (ovr W u).cell? ⟨q, 0, none⟩ = some (.slice BA bs.length bn) := fun u => HQQ.out _ (HUW.out u)
 go_enter Try.func73, Try.ntmps73
 go_upto_region 1 with (fail)
 rw [← HW.out]
 obtain ⟨u0, hu0⟩ := ovr_self W
 rw [hu0]
 clear hu0
 go_wp2_with fail
 go_loopw [9] (fun iv wr => ∃ (k : Nat) (u : World), k ≤ t.b.length ∧ iv = .int .i64 k ∧ wr = ovr W u ∧ trQ bs.length t.b k = true) (fun iv _ => t.b.length - (intOf iv).toNat)
 case atStart => exact ⟨0, u0, Nat.zero_le _, rfl, rfl, rfl⟩
 case round =>
  obtain ⟨k, u, hk, rfl, rfl, hok⟩ := hrel
  have HOK := Lib.hid hok
  clear hok
  by_cases hlt : k < t.b.length
  case neg =>
   obtain rfl : k = t.b.length := by omega
   have ki : decide ((t.b.length : Int) < (t.b.length : Int)) = false := decide_eq_false (by omega)
   clear hk hlt
   go_upto_region 7 with fail
   have hbX := ovr_below W u
   obtain ⟨X, hX⟩ : ∃ X, X = ovr W u := ⟨_, rfl⟩
   rw [← hX] at hbX
   rw [← hX]
   have hX' := Lib.hid hX
   clear hX
   have hbX' := Lib.hid hbX
   have reX : ∀ v, ∃ x, ovr X v = ovr W x := fun v => ovr_reB hbX v
   replace yW00 := tr_cell reX yW00
   replace yW01 := tr_cell reX yW01
   replace yW02 := tr_cell reX yW02
   replace RrowW0 := Lib.hid (tr_row reX RrowW0.out)
   have HBX : Hid (∀ u, Below W.heap.size W (ovr X u)) := fun u => by obtain ⟨x, hx⟩ := reX u; rw [hx]; exact ovr_below _ _
   clear reX hbX
   rcases h3 : spn9 t.s 0 10000000 with _ | _
   all_goals
        have HSP := Lib.hid h3
        refine wp_region_seq2 6 (fun j => if j = 0 then some (fun u _ => u = .agg #[I 0, I 10000000]) else if j = 3 then some (SlN X #[I t.s.lo, I t.s.hi] 24 1) else if j = 4 then some (fun u _ => u = .bool (spn9 t.s 0 10000000)) else none) (by kernel_rfl) (by kernel_rfl) (by kernel_rfl) (by kernel_rfl) (by kernel_rfl) ?_
        simp only [List.take_succ_cons, List.take_zero, List.drop_succ_cons, List.drop_zero]
        repeat (first | (refine wpG_one rfl rfl rfl ?_; intro K hK; go_big_quiet_op; go_big_quiet_on) | (refine wpG_skip rfl ?_; simp only [Act.put, List.setIfInBounds_toArray, List.set_cons_zero, List.set_cons_succ]))
        refine wpG_make (fun u _ => u = .agg #[I 0, I 10000000]) rfl rfl (fun w' hw' hk => ?_) (fun u hu => ?_)
        · go_simp
          exact call_grow (amounts_any w')
        obtain ⟨_, _, rfl⟩ := hu
        simp only [Act.put, List.setIfInBounds_toArray, List.set_cons_zero, List.set_cons_succ]
        repeat (first | (refine wpG_one rfl rfl rfl ?_; intro K hK; go_big_quiet_op; go_big_quiet_on) | (refine wpG_skip rfl ?_; simp only [Act.put, List.setIfInBounds_toArray, List.set_cons_zero, List.set_cons_succ]))
        refine wpG_make (SlN X #[I t.s.lo, I t.s.hi] 24 1) rfl rfl (fun w' hw' hk => ?_) (fun u hu => ?_)
        · go_simp
          exact sln_grow hw'
        obtain ⟨_, _, b1, rfl, _, _⟩ := hu
        simp only [Act.put, List.setIfInBounds_toArray, List.set_cons_zero, List.set_cons_succ]
        repeat (first | (refine wpG_one rfl rfl rfl ?_; intro K hK; go_big_quiet_op; go_big_quiet_on) | (refine wpG_skip rfl ?_; simp only [Act.put, List.setIfInBounds_toArray, List.set_cons_zero, List.set_cons_succ]))
        refine wpG_make (fun u _ => u = .bool (spn9 t.s 0 10000000)) rfl rfl (fun w' hw' hk => ?_) (fun u hu => ?_)
        · have hk3 := (hk ⟨3, .data⟩ (by simp) rfl _ 40 _ rfl rfl rfl (Nat.lt_of_lt_of_eq (by decide : 40 < 43) rfl) rfl).now.at
          have hh := hasRow hk3.1 0 10000000
          rw [HSP.out] at hh
          go_simp
          exact call_grow hh
        obtain ⟨_, _, rfl⟩ := hu
        simp only [Act.put, List.setIfInBounds_toArray, List.set_cons_zero, List.set_cons_succ]
        repeat (first | (refine wpG_one rfl rfl rfl ?_; intro K hK; go_big_quiet_op; go_big_quiet_on) | (refine wpG_skip rfl ?_; simp only [Act.put, List.setIfInBounds_toArray, List.set_cons_zero, List.set_cons_succ]))
        refine wpG_nil (fun w5 hw5 hG => ?_)
        clear hG
        have hb5 : Below X.heap.size X w5 := hw5.le
        have hwx : Below w.heap.size w X := by rw [hX'.out]; exact HUW.out u
        have HFB := Lib.hid (hwx.trans (hb5.mono hwx.size))
        have HF : Hid (trtOk bs.length t = spn9 t.s 0 10000000) := by show _ = _; rw [HT.out, HOK.out]; rfl
        refine wpTailIn_cons Wd.wide (by intro c h; cases h) ?_
        unfold Oper.wp
        go_simp
        refine wpTailIn_nil ?_
        (try simp only [Act.put])
        go_wp2_with fail
        go_ret
        exact ⟨by rw [HF.out, HSP.out]; rfl, HFB.out⟩
  have HLT := Lib.hid hlt
  have hk1000 : k ≤ 1000 := by have := HM.out; omega
  have hb1000 : bs.length ≤ 1000 := HM.out.2
  have ki : decide ((k : Int) < (t.b.length : Int)) = true := decide_eq_true (by omega)
  have kin : decide (k < t.b.length) = true := decide_eq_true hlt
  obtain ⟨b, o, rfl, _, e0⟩ := rd_int9 (HRD.out _ (HUW.out u)) hlt
  have HBAD : Hid (¬ (0 ≤ at0 t.b k ∧ at0 t.b k < (bs.length : Int) ∧ (k = 0 ∨ at0 t.b (k - 1) < at0 t.b k)) → trtOk bs.length t = false) := fun h => by
   rw [HT.out]
   rcases hq : trQ bs.length t.b t.b.length with _ | _
   · rfl
   · exact absurd (trB_iff.1 (trQ_iff.1 hq k HLT.out)) h
  have HGD : Hid (0 ≤ at0 t.b k ∧ at0 t.b k < (bs.length : Int) ∧ (k = 0 ∨ at0 t.b (k - 1) < at0 t.b k) → trQ bs.length t.b (k + 1) = true) := fun h => by
   show (trQ bs.length t.b k && trB bs.length t.b k) = true
   rw [HOK.out, trB_iff.2 h]
   rfl
  have HPV : Hid (∀ V, Below w.heap.size w V → 0 < k → V.cell? ⟨b, o + (k - 1), none⟩ = some (I (at0 t.b (k - 1)))) := fun V hV h0 => by
   obtain ⟨_, _, eb, _, e1⟩ := rd_int9 (k := k - 1) (HRD.out V hV) (by have := HLT.out; omega)
   injection eb with eb
   injection eb with eb1 eb2
   subst eb1 eb2
   exact e1
  obtain ⟨v, hv⟩ : ∃ v, at0 t.b k = v := ⟨_, rfl⟩
  obtain ⟨pv, hpv⟩ : ∃ v, at0 t.b (k - 1) = v := ⟨_, rfl⟩
  rw [hv] at e0 HBAD HGD
  rw [hpv] at HBAD HGD HPV
  clear hk hv hpv
  go_upto_region 4 with fail
  by_cases c1 : 0 ≤ v
  case neg =>
   have HF := Lib.hid (HBAD.out fun h => c1 h.1)
   have d1 : decide (v < 0) = true := decide_eq_true (by omega)
   clear c1
   go_wp2_with fail
   go_ret
   exact ⟨by rw [HF.out]; rfl, HUW.out _⟩
  have d1 : decide (v < 0) = false := decide_eq_false (by omega)
  by_cases c2 : v < (bs.length : Int)
  case neg =>
   have HF := Lib.hid (HBAD.out fun h => c2 h.2.1)
   have d2 : decide ((bs.length : Int) ≤ v) = true := decide_eq_true (by omega)
   clear c1 c2
   go_wp2_with fail
   go_ret
   exact ⟨by rw [HF.out]; rfl, HUW.out _⟩
  have d2 : decide ((bs.length : Int) ≤ v) = false := decide_eq_false (by omega)
  by_cases hk0 : k = 0
  · have HN := Lib.hid (HGD.out ⟨c1, c2, .inl hk0⟩)
    have d3 : decide (0 < (k : Int)) = false := decide_eq_false (by omega)
    have d3n : decide (0 < k) = false := decide_eq_false (by omega)
    clear c1 c2
    have HK0 := Lib.hid hk0
    clear hk0
    go_wp2_with fail
    go_roundw
    case rel => exact ⟨k + 1, u, HLT.out, by go_num, rfl, HN.out⟩
    case measure => have := HLT.out; simp [intOf]; omega
  have d3 : decide (0 < (k : Int)) = true := decide_eq_true (by omega)
  have d3n : decide (0 < k) = true := decide_eq_true (by omega)
  obtain ⟨m, hm⟩ : ∃ m, m = k - 1 := ⟨_, rfl⟩
  have km : IntKind.i64.wrap ((k : Int) - 1) = (m : Int) := (IntWalk.i64_in _ (by omega)).trans (by omega)
  have hml : m < t.b.length := by omega
  have f0 := HPV.out _ (HUW.out u) (by omega)
  rw [← hm] at f0
  have HMK := Lib.hid hm
  have HK0 := Lib.hid hk0
  clear hm
  by_cases c3 : pv < v
  · have HN := Lib.hid (HGD.out ⟨c1, c2, .inr c3⟩)
    have d4 : decide (v ≤ pv) = false := decide_eq_false (by omega)
    clear c1 c2 c3
    go_wp2_with fail
    go_roundw
    case rel => exact ⟨k + 1, u, HLT.out, by go_num, rfl, HN.out⟩
    case measure => have := HLT.out; simp [intOf]; omega
  · have HF := Lib.hid (HBAD.out fun h => h.2.2.elim HK0.out c3)
    have d4 : decide (v ≤ pv) = true := decide_eq_true (by omega)
    clear c1 c2 c3
    go_wp2_with fail
    go_ret
    exact ⟨by rw [HF.out]; rfl, HUW.out _⟩
end Go.Proofs.Ytljjpidigckheaa.Un
namespace Go.Proofs.Ytljjpidigckheaa.Un
open Go.RowKit
def apF (a b : List Int) (k : Nat) : Option Bool := if (k : Int) ∈ a then (if (k : Int) ∈ b then none else some true) else if (k : Int) ∈ b then some false else none
theorem take_snoc {l : List Int} {i : Nat} (h : i < l.length) : l.take (i + 1) = l.take i ++ [at0 l i] := by
 rw [at0_get h, List.take_add_one, List.getElem?_eq_getElem h]
 rfl
theorem apF_a {a : List Int} {i k : Nat} (h : i < a.length) (hk : at0 a i = (k : Int)) : upB (apF (a.take i) []) k (some true) = apF (a.take (i + 1)) [] := funext fun m => by
 unfold upB apF
 rw [take_snoc h, hk]
 by_cases he : m = k
 · subst he
   simp
 · rw [if_neg he]
   have : ¬ (m : Int) = (k : Int) := by omega
   simp [this]
theorem trQ_lt {n : Nat} {l : List Int} : ∀ {j i : Nat}, trQ n l l.length = true → i < j → j < l.length → at0 l i < at0 l j
 | 0, _, _, h, _ => absurd h (by omega)
 | j + 1, i, hq, h, hj => by
   have h1 := trB_iff.1 (trQ_iff.1 hq (j + 1) hj)
   have h2 : at0 l j < at0 l (j + 1) := by
     rcases h1.2.2 with h3 | h3
     · omega
     · simpa using h3
   rcases Nat.lt_or_ge i j with h4 | h4
   · have := trQ_lt hq h4 (show j < l.length by omega)
     omega
   · obtain rfl : i = j := by omega
     exact h2
theorem not_take {n : Nat} {l : List Int} {j : Nat} (hq : trQ n l l.length = true) (hj : j < l.length) : at0 l j ∉ l.take j := fun h => by
 obtain ⟨i, hi, he⟩ := List.getElem_of_mem h
 rw [List.length_take] at hi
 rw [List.getElem_take] at he
 have := trQ_lt hq (show i < j by omega) hj
 rw [at0_get (show i < l.length by omega), he] at this
 omega
theorem apF_look {n : Nat} {a b : List Int} {j k : Nat} (hq : trQ n b b.length = true) (h : j < b.length) (hk : at0 b j = (k : Int)) : (apF a (b.take j) k).getD false = decide ((k : Int) ∈ a) := by
 have := not_take hq h
 rw [hk] at this
 unfold apF
 by_cases ha : (k : Int) ∈ a <;> simp [ha, this]
theorem apF_drop {a b : List Int} {j k : Nat} (h : j < b.length) (hk : at0 b j = (k : Int)) (ha : (k : Int) ∈ a) : upB (apF a (b.take j)) k none = apF a (b.take (j + 1)) := funext fun m => by
 unfold upB apF
 rw [take_snoc h, hk]
 by_cases he : m = k
 · subst he
   simp [ha]
 · rw [if_neg he]
   have : ¬ (m : Int) = (k : Int) := by omega
   simp [this]
theorem apF_put {a b : List Int} {j k : Nat} (h : j < b.length) (hk : at0 b j = (k : Int)) (ha : (k : Int) ∉ a) : upB (apF a (b.take j)) k (some false) = apF a (b.take (j + 1)) := funext fun m => by
 unfold upB apF
 rw [take_snoc h, hk]
 by_cases he : m = k
 · subst he
   simp [ha]
 · rw [if_neg he]
   have : ¬ (m : Int) = (k : Int) := by omega
   simp [this]
theorem apF_lt {n : Nat} {a b : List Int} {k : Nat} {v : Bool} (ha : trQ n a a.length = true) (hb : trQ n b b.length = true) (h : apF a b k = some v) : k < n := by
 have one : ∀ l : List Int, trQ n l l.length = true → (k : Int) ∈ l → k < n := fun l hq hm => by
  obtain ⟨i, hi, he⟩ := List.getElem_of_mem hm
  have := trB_iff.1 (trQ_iff.1 hq i hi)
  rw [at0_get hi, he] at this
  omega
 unfold apF at h
 by_cases h1 : (k : Int) ∈ a
 · exact one a ha h1
 · by_cases h2 : (k : Int) ∈ b
   · exact one b hb h2
   · rw [if_neg h1, if_neg h2] at h
     cases h
def SmL (f : Nat → Option Bool) (left : Nat → Bool) (v : Bool) (g : Nat → Int) (N : Nat) : Int := Sm (fun k => if left k = true ∧ f k = some v then g k else 0) N
theorem SmL_strike {f : Nat → Option Bool} {left : Nat → Bool} {v : Bool} {g : Nat → Int} {k : Nat} : ∀ N, SmL f left v g N = SmL f (fun m => left m && !decide (m = k)) v g N + (if k < N ∧ left k = true ∧ f k = some v then g k else 0)
 | 0 => by
   rw [if_neg (by omega)]
   rfl
 | N + 1 => by
   have ih := SmL_strike (f := f) (left := left) (v := v) (g := g) (k := k) N
   show SmL f left v g N + (if left N = true ∧ f N = some v then g N else 0) = SmL f (fun m => left m && !decide (m = k)) v g N + (if (left N && !decide (N = k)) = true ∧ f N = some v then g N else 0) + _
   rw [ih]
   by_cases he : N = k
   · subst he
     rw [if_neg (show ¬ (N < N ∧ left N = true ∧ f N = some v) by omega), if_neg (show ¬ ((left N && !decide (N = N)) = true ∧ f N = some v) by simp)]
     have e2 : (if N < N + 1 ∧ left N = true ∧ f N = some v then g N else 0) = (if left N = true ∧ f N = some v then g N else 0) := by
       by_cases h2 : left N = true ∧ f N = some v
       · rw [if_pos h2, if_pos ⟨by omega, h2⟩]
       · rw [if_neg h2, if_neg (fun h => h2 h.2)]
     rw [e2]
   · have e1 : (left N && !decide (N = k)) = left N := by simp [he]
     have e2 : (if k < N + 1 ∧ left k = true ∧ f k = some v then g k else 0) = (if k < N ∧ left k = true ∧ f k = some v then g k else 0) := by
       by_cases h3 : k < N ∧ left k = true ∧ f k = some v
       · rw [if_pos h3, if_pos ⟨by omega, h3.2⟩]
       · rw [if_neg h3, if_neg (fun h => h3 ⟨by omega, h.2⟩)]
     rw [e1, e2]
     omega
theorem SmL_none {f : Nat → Option Bool} {left : Nat → Bool} {v : Bool} {g : Nat → Int} {N : Nat} (h : ∀ k, k < N → left k = false) : SmL f left v g N = 0 := Sm_none N fun k hk => by
 rw [if_neg (fun h2 => by rw [h k hk] at h2; cases h2.1)]
theorem SmL_one {f : Nat → Option Bool} {left : Nat → Bool} {v : Bool} : ∀ N : Nat, 0 ≤ SmL f left v (fun _ => 1) N ∧ SmL f left v (fun _ => 1) N ≤ N
 | 0 => ⟨Int.le_refl _, Int.le_refl _⟩
 | N + 1 => by
   have ih := SmL_one (f := f) (left := left) (v := v) N
   show 0 ≤ SmL f left v (fun _ => 1) N + (if left N = true ∧ f N = some v then (1 : Int) else 0) ∧ SmL f left v (fun _ => 1) N + (if left N = true ∧ f N = some v then (1 : Int) else 0) ≤ _
   split <;> omega
theorem SmL_all {f : Nat → Option Bool} {v : Bool} {g : Nat → Int} {N : Nat} : SmL f (fun k => (f k).isSome) v g N = SmL f (fun _ => true) v g N := Sm_congr N fun k _ => by
 by_cases h : f k = some v
 · rw [if_pos ⟨by show (f k).isSome = true; rw [h]; rfl, h⟩, if_pos ⟨rfl, h⟩]
 · rw [if_neg (fun h2 => h h2.2), if_neg (fun h2 => h h2.2)]
theorem SmL_bd {f : Nat → Option Bool} {left : Nat → Bool} {v : Bool} {g : Nat → Int} {M : Int} (hM : 0 ≤ M) : ∀ N : Nat, (∀ k, k < N → 0 ≤ g k ∧ g k ≤ M) → 0 ≤ SmL f left v g N ∧ SmL f left v g N ≤ N * M
 | 0, _ => by simp [SmL, Sm]
 | N + 1, h => by
   have ih := SmL_bd (f := f) (left := left) (v := v) hM N fun k hk => h k (by omega)
   have h1 := h N (by omega)
   show 0 ≤ SmL f left v g N + (if _ then _ else _) ∧ SmL f left v g N + (if _ then _ else _) ≤ _
   rw [Int.natCast_add, Int.add_mul]
   split <;> omega
/-! Sums of lists that grow. -/
theorem addK_app {xs : List Rng} {r : Rng} : ∀ k, k ≤ xs.length → addK (xs ++ [r]) k = addK xs k
 | 0, _ => rfl
 | k + 1, hk => by
   show ((addK (xs ++ [r]) k).1 + (at0 (xs ++ [r]) k).lo, (addK (xs ++ [r]) k).2 + (at0 (xs ++ [r]) k).hi) = ((addK xs k).1 + (at0 xs k).lo, (addK xs k).2 + (at0 xs k).hi)
   rw [addK_app k (by omega), at0_get (show k < xs.length by omega), at0_get (by simp; omega), List.getElem_append_left]
theorem addK_snoc (xs : List Rng) (r : Rng) : addK (xs ++ [r]) (xs ++ [r]).length = ((addK xs xs.length).1 + r.lo, (addK xs xs.length).2 + r.hi) := by
 rw [List.length_append]
 show ((addK (xs ++ [r]) xs.length).1 + (at0 (xs ++ [r]) xs.length).lo, (addK (xs ++ [r]) xs.length).2 + (at0 (xs ++ [r]) xs.length).hi) = _
 rw [addK_app _ (Nat.le_refl _), at0_get (by simp), List.getElem_append_right (Nat.le_refl _)]
 simp
theorem suF_of {xs : List Rng} (h : all9 0 10000000 xs = true) (hn : xs.length ≤ 100) : suF xs = (⟨(addK xs xs.length).1, (addK xs xs.length).2⟩, 0) ∧ (0 ≤ (addK xs xs.length).1 ∧ (addK xs xs.length).1 ≤ (addK xs xs.length).2 ∧ (addK xs xs.length).2 ≤ 1000000000) := by
 have hr := rngsOk_of (by decide) (by decide) h
 have hc : chk xs = 0 := by unfold chk; rw [if_neg (by omega), hr]; rfl
 have hb : ∀ k, k ≤ xs.length → 0 ≤ (addK xs k).1 ∧ (addK xs k).1 ≤ (addK xs k).2 ∧ (addK xs k).2 ≤ 10000000 * (k : Int) := fun k => by
  induction k with
  | zero => intro _; simp [addK]
  | succ k ih =>
    intro hk
    obtain ⟨i1, i2, i3⟩ := ih (by omega)
    have := all9_at h (show k < xs.length by omega)
    show 0 ≤ (addK xs k).1 + _ ∧ (addK xs k).1 + _ ≤ (addK xs k).2 + _ ∧ (addK xs k).2 + _ ≤ _
    rw [Int.natCast_add, Int.mul_add]
    omega
 have hl := hb xs.length (Nat.le_refl _)
 refine ⟨?_, by omega⟩
 unfold suF
 rw [if_pos hc, fiF_ok (by omega) (by omega)]
theorem all9_snoc {l h : Int} {xs : List Rng} {r : Rng} (ha : all9 l h xs = true) (hr : spn9 r l h = true) : all9 l h (xs ++ [r]) = true := all9_iff.2 fun q hq => by
 rcases List.mem_append.1 hq with h1 | h1
 · exact all9_iff.1 ha q h1
 · rw [List.mem_singleton.1 h1]
   exact hr
end Go.Proofs.Ytljjpidigckheaa.Un
