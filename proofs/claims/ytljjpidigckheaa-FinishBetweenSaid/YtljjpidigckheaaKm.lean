/- Contracts of Remove of package finish: what is asked of the steps. -/
import Derived.Test.YtljjpidigckheaaKg
namespace Go.Proofs.Ytljjpidigckheaa.Un
open Go.RowKit
structure Rmv where
 k : Int
 a : Rng
 s : Int
instance : Inhabited Rmv := ⟨⟨0, ⟨0, 0⟩, 0⟩⟩
abbrev rmA (r : Rmv) : Array Value := #[I r.k, I r.a.lo, I r.a.hi, I r.s]
def rV (l : List Rmv) (k j : Nat) : Value := if j = 0 then I (at0 l k).k else if j = 1 then I (at0 l k).a.lo else if j = 2 then I (at0 l k).a.hi else I (at0 l k).s
theorem rd_rmv {w : World} {B n k : Nat} {A : Option Addr} {l : List Rmv} (h : Rd w B 4 A n (rV l)) (hk : k < n) : ∃ b o, A = some ⟨b, o, none⟩ ∧ b < B ∧
 w.cell? ⟨b, o + k * 4, none⟩ = some (I (at0 l k).k) ∧ w.cell? ⟨b, o + k * 4 + 1, none⟩ = some (I (at0 l k).a.lo) ∧ w.cell? ⟨b, o + k * 4 + 2, none⟩ = some (I (at0 l k).a.hi) ∧ w.cell? ⟨b, o + k * 4 + 3, none⟩ = some (I (at0 l k).s) := by
 obtain ⟨b, o, e, hb, hc⟩ := h (by omega)
 exact ⟨b, o, e, hb, hc k hk 0 (by omega), hc k hk 1 (by omega), hc k hk 2 (by omega), hc k hk 3 (by omega)⟩
def rmB (r : Rmv) : Bool := !(decide (1 ≤ r.k) && (decide (r.k ≤ 4) && (spn9 r.a 0 10000000 && (decide (0 ≤ r.s) && decide (r.s ≤ 1000000)))))
theorem rmB_no {r : Rmv} : rmB r = false ↔ 1 ≤ r.k ∧ r.k ≤ 4 ∧ (0 ≤ r.a.lo ∧ r.a.lo ≤ r.a.hi ∧ r.a.hi ≤ 10000000) ∧ 0 ≤ r.s ∧ r.s ≤ 1000000 := by
 unfold rmB
 rw [Bool.not_eq_false']
 simp only [Bool.and_eq_true, decide_eq_true_eq, spn9_iff]
set_option maxHeartbeats 2000000 in
theorem remove1_any (r : Rmv) (w : World) :
 Calls Try.prog 78 #[.agg (rmA r)] w fun e w' => e = .returned (.bool (rmB r)) ∧ Below w.heap.size w w' := by
 have hf : Hid (rmB r = !(decide (1 ≤ r.k) && (decide (r.k ≤ 4) && (spn9 r.a 0 10000000 && (decide (0 ≤ r.s) && decide (r.s ≤ 1000000)))))) := rfl
 obtain ⟨W, hW⟩ : ∃ W, W = (w.alloc (.cells #[I r.k, I r.a.lo, I r.a.hi, I r.s] 88)) := ⟨_, rfl⟩
 have rowW0 : W.heap[w.heap.size]? = some (.cells #[I r.k, I r.a.lo, I r.a.hi, I r.s] 88 (0, 0)) := by rw [hW]; exact heap_last _ _ _ rfl
 have yW00 := ovr_cell (W := W) (b := w.heap.size) (o := 0) (v := I r.k) (by rw [cell_of_row _ _ _ _ _ _ rowW0]; rfl)
 have yW01 := ovr_cell (W := W) (b := w.heap.size) (o := 1) (v := I r.a.lo) (by rw [cell_of_row _ _ _ _ _ _ rowW0]; rfl)
 have yW02 := ovr_cell (W := W) (b := w.heap.size) (o := 2) (v := I r.a.hi) (by rw [cell_of_row _ _ _ _ _ _ rowW0]; rfl)
 have yW03 := ovr_cell (W := W) (b := w.heap.size) (o := 3) (v := I r.s) (by rw [cell_of_row _ _ _ _ _ _ rowW0]; rfl)
 have RrowW0 := Lib.hid (ovr_row rowW0)
 clear rowW0
 have HUW : Hid (∀ u, Below w.heap.size w (ovr W u)) := U1 hW
 have HW := Lib.hid hW
 clear hW
 go_enter Try.func78, Try.ntmps78
 go_upto_region 1 with (fail)
 rw [← HW.out]
 obtain ⟨u0, hu0⟩ := ovr_self W
 rw [hu0]
 clear hu0
 have hbX := ovr_below W u0
 obtain ⟨X, hX⟩ : ∃ X, X = ovr W u0 := ⟨_, rfl⟩
 rw [← hX] at hbX
 rw [← hX]
 have hX' := Lib.hid hX
 clear hX
 have hbX' := Lib.hid hbX
 have reX : ∀ v, ∃ x, ovr X v = ovr W x := fun v => ovr_reB hbX v
 replace yW00 := tr_cell reX yW00
 replace yW01 := tr_cell reX yW01
 replace yW02 := tr_cell reX yW02
 replace yW03 := tr_cell reX yW03
 replace RrowW0 := Lib.hid (tr_row reX RrowW0.out)
 have HUX : Hid (∀ u, Below w.heap.size w (ovr X u)) := fun u => by obtain ⟨x, hx⟩ := reX u; rw [hx]; exact HUW.out x
 clear reX hbX
 rcases h1 : decide (1 ≤ r.k) with _ | _ <;> rw [h1] at hf
 · have d1 : decide (r.k < 1) = true := decide_eq_true (by have := of_decide_eq_false h1; omega)
   clear h1
   refine Gg.wp_region_make (fun _ => none) (by kernel_rfl) (by kernel_rfl) (by kernel_rfl) ?_
   repeat (first | (refine Gg.wpG_one rfl rfl rfl ?_; intro K hK; go_big_quiet_op; go_big_quiet_on) | (refine Gg.wpG_skip rfl ?_; simp only [Act.put, List.setIfInBounds_toArray, List.set_cons_zero, List.set_cons_succ]))
   refine Gg.wpG_nil (fun w5 hw5 hG => ?_)
   clear hG
   go_wp2_with fail
   go_ret
   exact ⟨by rw [hf.out]; rfl, (below_self HUX.out).trans (hw5.le.mono (below_self HUX.out).size)⟩
 have d1 : decide (r.k < 1) = false := decide_eq_false (by have := of_decide_eq_true h1; omega)
 rcases h2 : decide (r.k ≤ 4) with _ | _ <;> rw [h2] at hf
 · have d2 : decide (4 < r.k) = true := decide_eq_true (by have := of_decide_eq_false h2; omega)
   clear h1 h2
   refine Gg.wp_region_make (fun _ => none) (by kernel_rfl) (by kernel_rfl) (by kernel_rfl) ?_
   repeat (first | (refine Gg.wpG_one rfl rfl rfl ?_; intro K hK; go_big_quiet_op; go_big_quiet_on) | (refine Gg.wpG_skip rfl ?_; simp only [Act.put, List.setIfInBounds_toArray, List.set_cons_zero, List.set_cons_succ]))
   refine Gg.wpG_nil (fun w5 hw5 hG => ?_)
   clear hG
   go_wp2_with fail
   go_ret
   exact ⟨by rw [hf.out]; rfl, (below_self HUX.out).trans (hw5.le.mono (below_self HUX.out).size)⟩
 have d2 : decide (4 < r.k) = false := decide_eq_false (by have := of_decide_eq_true h2; omega)
 clear h1 h2
 rcases h3 : spn9 r.a 0 10000000 with _ | _ <;> rw [h3] at hf
 · have HSP := Lib.hid h3
   refine Gg.wp_region_make (fun j => if j = 9 then some (fun u _ => u = .agg #[I 0, I 10000000]) else if j = 12 then some (SlN X #[I r.a.lo, I r.a.hi] 24 1) else if j = 13 then some (fun u _ => u = .bool (spn9 r.a 0 10000000)) else none) (by kernel_rfl) (by kernel_rfl) (by kernel_rfl) ?_
   repeat (first | (refine Gg.wpG_one rfl rfl rfl ?_; intro K hK; go_big_quiet_op; go_big_quiet_on) | (refine Gg.wpG_skip rfl ?_; simp only [Act.put, List.setIfInBounds_toArray, List.set_cons_zero, List.set_cons_succ]))
   refine Gg.wpG_make (fun u _ => u = .agg #[I 0, I 10000000]) rfl rfl (fun w' hw' hk => ?_) (fun u hu => ?_)
   · go_simp
     exact call_grow (amounts_any w')
   obtain ⟨_, _, rfl⟩ := hu
   simp only [Act.put, List.setIfInBounds_toArray, List.set_cons_zero, List.set_cons_succ]
   repeat (first | (refine Gg.wpG_one rfl rfl rfl ?_; intro K hK; go_big_quiet_op; go_big_quiet_on) | (refine Gg.wpG_skip rfl ?_; simp only [Act.put, List.setIfInBounds_toArray, List.set_cons_zero, List.set_cons_succ]))
   refine Gg.wpG_make (SlN X #[I r.a.lo, I r.a.hi] 24 1) rfl rfl (fun w' hw' hk => ?_) (fun u hu => ?_)
   · go_simp
     exact sln_grow hw'
   obtain ⟨_, _, b1, rfl, _, _⟩ := hu
   simp only [Act.put, List.setIfInBounds_toArray, List.set_cons_zero, List.set_cons_succ]
   repeat (first | (refine Gg.wpG_one rfl rfl rfl ?_; intro K hK; go_big_quiet_op; go_big_quiet_on) | (refine Gg.wpG_skip rfl ?_; simp only [Act.put, List.setIfInBounds_toArray, List.set_cons_zero, List.set_cons_succ]))
   refine Gg.wpG_make (fun u _ => u = .bool (spn9 r.a 0 10000000)) rfl rfl (fun w' hw' hk => ?_) (fun u hu => ?_)
   · have hk3 := (hk ⟨12, .data⟩ (by simp) rfl _ _ _ rfl (.inr (by simp [undef])) rfl (by simp) rfl).now.at
     have hh := hasRow hk3.1 0 10000000
     rw [HSP.out] at hh
     go_simp
     exact call_grow hh
   obtain ⟨_, _, rfl⟩ := hu
   simp only [Act.put, List.setIfInBounds_toArray, List.set_cons_zero, List.set_cons_succ]
   repeat (first | (refine Gg.wpG_one rfl rfl rfl ?_; intro K hK; go_big_quiet_op; go_big_quiet_on) | (refine Gg.wpG_skip rfl ?_; simp only [Act.put, List.setIfInBounds_toArray, List.set_cons_zero, List.set_cons_succ]))
   refine Gg.wpG_nil (fun w5 hw5 hG => ?_)
   clear hG
   go_wp2_with fail
   go_ret
   exact ⟨by rw [hf.out]; rfl, (below_self HUX.out).trans (hw5.le.mono (below_self HUX.out).size)⟩
 have HSP := Lib.hid h3
 rcases h4 : decide (0 ≤ r.s) with _ | _ <;> rw [h4] at hf
 · have d4 : decide (r.s < 0) = true := decide_eq_true (by have := of_decide_eq_false h4; omega)
   clear h4
   refine Gg.wp_region_make (fun j => if j = 9 then some (fun u _ => u = .agg #[I 0, I 10000000]) else if j = 12 then some (SlN X #[I r.a.lo, I r.a.hi] 24 1) else if j = 13 then some (fun u _ => u = .bool (spn9 r.a 0 10000000)) else none) (by kernel_rfl) (by kernel_rfl) (by kernel_rfl) ?_
   repeat (first | (refine Gg.wpG_one rfl rfl rfl ?_; intro K hK; go_big_quiet_op; go_big_quiet_on) | (refine Gg.wpG_skip rfl ?_; simp only [Act.put, List.setIfInBounds_toArray, List.set_cons_zero, List.set_cons_succ]))
   refine Gg.wpG_make (fun u _ => u = .agg #[I 0, I 10000000]) rfl rfl (fun w' hw' hk => ?_) (fun u hu => ?_)
   · go_simp
     exact call_grow (amounts_any w')
   obtain ⟨_, _, rfl⟩ := hu
   simp only [Act.put, List.setIfInBounds_toArray, List.set_cons_zero, List.set_cons_succ]
   repeat (first | (refine Gg.wpG_one rfl rfl rfl ?_; intro K hK; go_big_quiet_op; go_big_quiet_on) | (refine Gg.wpG_skip rfl ?_; simp only [Act.put, List.setIfInBounds_toArray, List.set_cons_zero, List.set_cons_succ]))
   refine Gg.wpG_make (SlN X #[I r.a.lo, I r.a.hi] 24 1) rfl rfl (fun w' hw' hk => ?_) (fun u hu => ?_)
   · go_simp
     exact sln_grow hw'
   obtain ⟨_, _, b1, rfl, _, _⟩ := hu
   simp only [Act.put, List.setIfInBounds_toArray, List.set_cons_zero, List.set_cons_succ]
   repeat (first | (refine Gg.wpG_one rfl rfl rfl ?_; intro K hK; go_big_quiet_op; go_big_quiet_on) | (refine Gg.wpG_skip rfl ?_; simp only [Act.put, List.setIfInBounds_toArray, List.set_cons_zero, List.set_cons_succ]))
   refine Gg.wpG_make (fun u _ => u = .bool (spn9 r.a 0 10000000)) rfl rfl (fun w' hw' hk => ?_) (fun u hu => ?_)
   · have hk3 := (hk ⟨12, .data⟩ (by simp) rfl _ _ _ rfl (.inr (by simp [undef])) rfl (by simp) rfl).now.at
     have hh := hasRow hk3.1 0 10000000
     rw [HSP.out] at hh
     go_simp
     exact call_grow hh
   obtain ⟨_, _, rfl⟩ := hu
   simp only [Act.put, List.setIfInBounds_toArray, List.set_cons_zero, List.set_cons_succ]
   repeat (first | (refine Gg.wpG_one rfl rfl rfl ?_; intro K hK; go_big_quiet_op; go_big_quiet_on) | (refine Gg.wpG_skip rfl ?_; simp only [Act.put, List.setIfInBounds_toArray, List.set_cons_zero, List.set_cons_succ]))
   refine Gg.wpG_nil (fun w5 hw5 hG => ?_)
   clear hG
   go_wp2_with fail
   go_ret
   exact ⟨by rw [hf.out]; rfl, (below_self HUX.out).trans (hw5.le.mono (below_self HUX.out).size)⟩
 have d4 : decide (r.s < 0) = false := decide_eq_false (by have := of_decide_eq_true h4; omega)
 rcases h5 : decide (r.s ≤ 1000000) with _ | _ <;> rw [h5] at hf
 · have d5 : decide (1000000 < r.s) = true := decide_eq_true (by have := of_decide_eq_false h5; omega)
   clear h4 h5
   refine Gg.wp_region_make (fun j => if j = 9 then some (fun u _ => u = .agg #[I 0, I 10000000]) else if j = 12 then some (SlN X #[I r.a.lo, I r.a.hi] 24 1) else if j = 13 then some (fun u _ => u = .bool (spn9 r.a 0 10000000)) else none) (by kernel_rfl) (by kernel_rfl) (by kernel_rfl) ?_
   repeat (first | (refine Gg.wpG_one rfl rfl rfl ?_; intro K hK; go_big_quiet_op; go_big_quiet_on) | (refine Gg.wpG_skip rfl ?_; simp only [Act.put, List.setIfInBounds_toArray, List.set_cons_zero, List.set_cons_succ]))
   refine Gg.wpG_make (fun u _ => u = .agg #[I 0, I 10000000]) rfl rfl (fun w' hw' hk => ?_) (fun u hu => ?_)
   · go_simp
     exact call_grow (amounts_any w')
   obtain ⟨_, _, rfl⟩ := hu
   simp only [Act.put, List.setIfInBounds_toArray, List.set_cons_zero, List.set_cons_succ]
   repeat (first | (refine Gg.wpG_one rfl rfl rfl ?_; intro K hK; go_big_quiet_op; go_big_quiet_on) | (refine Gg.wpG_skip rfl ?_; simp only [Act.put, List.setIfInBounds_toArray, List.set_cons_zero, List.set_cons_succ]))
   refine Gg.wpG_make (SlN X #[I r.a.lo, I r.a.hi] 24 1) rfl rfl (fun w' hw' hk => ?_) (fun u hu => ?_)
   · go_simp
     exact sln_grow hw'
   obtain ⟨_, _, b1, rfl, _, _⟩ := hu
   simp only [Act.put, List.setIfInBounds_toArray, List.set_cons_zero, List.set_cons_succ]
   repeat (first | (refine Gg.wpG_one rfl rfl rfl ?_; intro K hK; go_big_quiet_op; go_big_quiet_on) | (refine Gg.wpG_skip rfl ?_; simp only [Act.put, List.setIfInBounds_toArray, List.set_cons_zero, List.set_cons_succ]))
   refine Gg.wpG_make (fun u _ => u = .bool (spn9 r.a 0 10000000)) rfl rfl (fun w' hw' hk => ?_) (fun u hu => ?_)
   · have hk3 := (hk ⟨12, .data⟩ (by simp) rfl _ _ _ rfl (.inr (by simp [undef])) rfl (by simp) rfl).now.at
     have hh := hasRow hk3.1 0 10000000
     rw [HSP.out] at hh
     go_simp
     exact call_grow hh
   obtain ⟨_, _, rfl⟩ := hu
   simp only [Act.put, List.setIfInBounds_toArray, List.set_cons_zero, List.set_cons_succ]
   repeat (first | (refine Gg.wpG_one rfl rfl rfl ?_; intro K hK; go_big_quiet_op; go_big_quiet_on) | (refine Gg.wpG_skip rfl ?_; simp only [Act.put, List.setIfInBounds_toArray, List.set_cons_zero, List.set_cons_succ]))
   refine Gg.wpG_nil (fun w5 hw5 hG => ?_)
   clear hG
   go_wp2_with fail
   go_ret
   exact ⟨by rw [hf.out]; rfl, (below_self HUX.out).trans (hw5.le.mono (below_self HUX.out).size)⟩
 have d5 : decide (1000000 < r.s) = false := decide_eq_false (by have := of_decide_eq_true h5; omega)
 clear h4 h5
 refine Gg.wp_region_make (fun j => if j = 9 then some (fun u _ => u = .agg #[I 0, I 10000000]) else if j = 12 then some (SlN X #[I r.a.lo, I r.a.hi] 24 1) else if j = 13 then some (fun u _ => u = .bool (spn9 r.a 0 10000000)) else none) (by kernel_rfl) (by kernel_rfl) (by kernel_rfl) ?_
 repeat (first | (refine Gg.wpG_one rfl rfl rfl ?_; intro K hK; go_big_quiet_op; go_big_quiet_on) | (refine Gg.wpG_skip rfl ?_; simp only [Act.put, List.setIfInBounds_toArray, List.set_cons_zero, List.set_cons_succ]))
 refine Gg.wpG_make (fun u _ => u = .agg #[I 0, I 10000000]) rfl rfl (fun w' hw' hk => ?_) (fun u hu => ?_)
 · go_simp
   exact call_grow (amounts_any w')
 obtain ⟨_, _, rfl⟩ := hu
 simp only [Act.put, List.setIfInBounds_toArray, List.set_cons_zero, List.set_cons_succ]
 repeat (first | (refine Gg.wpG_one rfl rfl rfl ?_; intro K hK; go_big_quiet_op; go_big_quiet_on) | (refine Gg.wpG_skip rfl ?_; simp only [Act.put, List.setIfInBounds_toArray, List.set_cons_zero, List.set_cons_succ]))
 refine Gg.wpG_make (SlN X #[I r.a.lo, I r.a.hi] 24 1) rfl rfl (fun w' hw' hk => ?_) (fun u hu => ?_)
 · go_simp
   exact sln_grow hw'
 obtain ⟨_, _, b1, rfl, _, _⟩ := hu
 simp only [Act.put, List.setIfInBounds_toArray, List.set_cons_zero, List.set_cons_succ]
 repeat (first | (refine Gg.wpG_one rfl rfl rfl ?_; intro K hK; go_big_quiet_op; go_big_quiet_on) | (refine Gg.wpG_skip rfl ?_; simp only [Act.put, List.setIfInBounds_toArray, List.set_cons_zero, List.set_cons_succ]))
 refine Gg.wpG_make (fun u _ => u = .bool (spn9 r.a 0 10000000)) rfl rfl (fun w' hw' hk => ?_) (fun u hu => ?_)
 · have hk3 := (hk ⟨12, .data⟩ (by simp) rfl _ _ _ rfl (.inr (by simp [undef])) rfl (by simp) rfl).now.at
   have hh := hasRow hk3.1 0 10000000
   rw [HSP.out] at hh
   go_simp
   exact call_grow hh
 obtain ⟨_, _, rfl⟩ := hu
 simp only [Act.put, List.setIfInBounds_toArray, List.set_cons_zero, List.set_cons_succ]
 repeat (first | (refine Gg.wpG_one rfl rfl rfl ?_; intro K hK; go_big_quiet_op; go_big_quiet_on) | (refine Gg.wpG_skip rfl ?_; simp only [Act.put, List.setIfInBounds_toArray, List.set_cons_zero, List.set_cons_succ]))
 refine Gg.wpG_nil (fun w5 hw5 hG => ?_)
 clear hG
 go_wp2_with fail
 go_ret
 exact ⟨by rw [hf.out]; rfl, (below_self HUX.out).trans (hw5.le.mono (below_self HUX.out).size)⟩
set_option maxHeartbeats 1000000 in
theorem ix_rm (A : Option Addr) (c : Nat) (xs : List Rmv) (w : World) (B : Nat) (hm : xs.length ≤ 1000) (hB : B ≤ w.heap.size) (hx : Rd w B 4 A xs.length (rV xs)) :
 Calls Try.prog 108 #[.slice A xs.length c, .func (Fn.func 78) #[] #[]] w fun e w' => e = .returned (.int .i64 (ixOf rmB xs)) ∧ Below w.heap.size w w' := by
 have HX : Hid (∀ u, Rd (ovr w u) B 4 A xs.length (rV xs)) := fun u => hx.below ((ovr_below w u).mono hB)
 have HC : Hid (∀ V (r : Rmv), Calls Try.prog 78 #[.agg (rmA r)] V fun e w' => e = .returned (.bool (rmB r)) ∧ Below V.heap.size V w') := fun V r => remove1_any r V
 obtain ⟨u0, hu0⟩ := ovr_self w
 have H0 := Lib.hid hu0
 clear hx hB hu0
 go_enter Try.func108, Try.ntmps108
 go_wp2
 go_loopw [8] (fun i wr => ∃ k : Nat, k ≤ xs.length ∧ i = .int .i64 k ∧ (∀ j, j < k → rmB (at0 xs j) = false) ∧ ∃ u, wr = ovr w u) (fun i _ => xs.length - (intOf i).toNat)
 case atStart => exact ⟨0, by omega, rfl, fun j hj => absurd hj (by omega), u0, H0.out⟩
 case round =>
  obtain ⟨k, hk, rfl, hb, u, rfl⟩ := hrel
  have Hb := Lib.hid hb
  clear hb
  by_cases hlt : k < xs.length
  · obtain ⟨b', o, rfl, _, e0, e1, e2, e3⟩ := rd_rmv (HX.out u) hlt
    have ca := HC.out
    have hfin : rmB (at0 xs k) = true → ixOf rmB xs = k := fun hp => ixOf_at hlt hp Hb.out
    have hnext : rmB (at0 xs k) = false → ∀ j, j < k + 1 → rmB (at0 xs j) = false := fun hp => succ_case Hb.out hp
    obtain ⟨r, hr⟩ : ∃ r, at0 xs k = r := ⟨_, rfl⟩
    rw [hr] at e0 e1 e2 e3 hfin hnext
    have Hfin := Lib.hid hfin
    have Hnext := Lib.hid hnext
    have cr := ca (ovr w u) r
    clear hr hfin hnext ca
    rcases hp : rmB r with _ | _ <;> rw [hp] at cr
    · have Ca := Lib.hid cr
      have HN := Lib.hid (Hnext.out hp)
      clear cr
      go_wp2_with fail
      refine Ca.out.mono ?_
      rintro e w1 ⟨rfl, hb1⟩
      obtain ⟨u1, rfl⟩ := ovr_next hb1
      clear hb1
      go_wp2_with fail
      go_roundw
      case rel => exact ⟨k + 1, by omega, by go_num, HN.out, u1, rfl⟩
      case measure => simp [intOf]; omega
    · have Ca := Lib.hid cr
      have HN := Lib.hid (Hfin.out hp)
      clear cr
      go_wp2_with fail
      refine Ca.out.mono ?_
      rintro e w1 ⟨rfl, hb1⟩
      obtain ⟨u1, rfl⟩ := ovr_next hb1
      clear hb1
      go_wp2_with fail
      go_ret
      exact ⟨ret_int HN.out.symm, ovr_below _ _⟩
  · have hfin : Hid (ixOf rmB xs = -1) := ixOf_none0 fun j hj => Hb.out j (by omega)
    go_wp2
    go_ret
    exact ⟨ret_int hfin.out.symm, ovr_below _ _⟩
set_option maxHeartbeats 1000000 in
theorem con_rm (A : Option Addr) (c : Nat) (xs : List Rmv) (w : World) (B : Nat) (hm : xs.length ≤ 1000) (hB : B ≤ w.heap.size) (hx : Rd w B 4 A xs.length (rV xs)) :
 Calls Try.prog 77 #[.slice A xs.length c, .func (Fn.func 78) #[] #[]] w fun e w' => e = .returned (.bool (xs.any rmB)) ∧ Below w.heap.size w w' := by
 have hfin := ixOf_any (p := rmB) (xs := xs)
 have cx := Lib.hid (ix_rm A c xs w B hm hB hx)
 clear hx hB hm
 go_enter Try.func77, Try.ntmps77
 go_wp2_with fail
 refine cx.out.mono ?_
 rintro e w' ⟨rfl, hb⟩
 have HB := Lib.hid hb
 clear hb
 go_wp2_with fail
 go_ret
 exact ⟨rfl, HB.out⟩
set_option maxHeartbeats 1000000 in
theorem remove2_any (a b : Rmv) (w : World) (ha : 1 ≤ a.k ∧ a.k ≤ 4) (hb : 1 ≤ b.k ∧ b.k ≤ 4) :
 Calls Try.prog 80 #[.agg (rmA a), .agg (rmA b)] w fun e w' => e = .returned (I (a.k - b.k)) ∧ Below w.heap.size w w' := by
 have k1 : IntKind.i64.wrap (a.k - b.k) = a.k - b.k := IntWalk.i64_in _ (by omega)
 clear ha hb
 obtain ⟨W, hW⟩ : ∃ W, W = ((w.alloc (.cells #[I a.k, I a.a.lo, I a.a.hi, I a.s] 88)).alloc (.cells #[I b.k, I b.a.lo, I b.a.hi, I b.s] 88)) := ⟨_, rfl⟩
 have rowW0 : W.heap[w.heap.size]? = some (.cells #[I a.k, I a.a.lo, I a.a.hi, I a.s] 88 (0, 0)) := by rw [hW]; exact heap_before (heap_last _ _ _ rfl)
 have yW00 := ovr_cell (W := W) (b := w.heap.size) (o := 0) (v := I a.k) (by rw [cell_of_row _ _ _ _ _ _ rowW0]; rfl)
 have yW01 := ovr_cell (W := W) (b := w.heap.size) (o := 1) (v := I a.a.lo) (by rw [cell_of_row _ _ _ _ _ _ rowW0]; rfl)
 have yW02 := ovr_cell (W := W) (b := w.heap.size) (o := 2) (v := I a.a.hi) (by rw [cell_of_row _ _ _ _ _ _ rowW0]; rfl)
 have yW03 := ovr_cell (W := W) (b := w.heap.size) (o := 3) (v := I a.s) (by rw [cell_of_row _ _ _ _ _ _ rowW0]; rfl)
 have RrowW0 := Lib.hid (ovr_row rowW0)
 clear rowW0
 have rowW1 : W.heap[w.heap.size + 1]? = some (.cells #[I b.k, I b.a.lo, I b.a.hi, I b.s] 88 (0, 0)) := by rw [hW]; exact heap_last _ _ _ (by simp)
 have yW10 := ovr_cell (W := W) (b := w.heap.size + 1) (o := 0) (v := I b.k) (by rw [cell_of_row _ _ _ _ _ _ rowW1]; rfl)
 have yW11 := ovr_cell (W := W) (b := w.heap.size + 1) (o := 1) (v := I b.a.lo) (by rw [cell_of_row _ _ _ _ _ _ rowW1]; rfl)
 have yW12 := ovr_cell (W := W) (b := w.heap.size + 1) (o := 2) (v := I b.a.hi) (by rw [cell_of_row _ _ _ _ _ _ rowW1]; rfl)
 have yW13 := ovr_cell (W := W) (b := w.heap.size + 1) (o := 3) (v := I b.s) (by rw [cell_of_row _ _ _ _ _ _ rowW1]; rfl)
 have RrowW1 := Lib.hid (ovr_row rowW1)
 clear rowW1
 have HUW : Hid (∀ u, Below w.heap.size w (ovr W u)) := U2 hW
 have HW := Lib.hid hW
 clear hW
 go_enter Try.func80, Try.ntmps80
 go_upto_region 1 with (fail)
 rw [← HW.out]
 obtain ⟨u0, hu0⟩ := ovr_self W
 rw [hu0]
 clear hu0
 go_wp2_with fail
 go_ret
 exact ⟨rfl, HUW.out _⟩
def srt (xs : List Rmv) : Nat → Bool
 | 0 => true | k + 1 => srt xs k && decide ((at0 xs k).k ≤ (at0 xs (k + 1)).k)
theorem srt_iff {xs : List Rmv} : ∀ {n : Nat}, srt xs n = true ↔ ∀ k, k < n → (at0 xs k).k ≤ (at0 xs (k + 1)).k
 | 0 => ⟨fun _ k hk => absurd hk (by omega), fun _ => rfl⟩
 | n + 1 => by
   unfold srt
   rw [Bool.and_eq_true, srt_iff (n := n), decide_eq_true_eq]
   refine ⟨fun h k hk => ?_, fun h => ⟨fun k hk => h k (by omega), h n (by omega)⟩⟩
   rcases Nat.lt_or_ge k n with h1 | h1
   · exact h.1 k h1
   · obtain rfl : k = n := by omega
     exact h.2
set_option maxHeartbeats 2000000 in
theorem sorted_any (A : Option Addr) (c : Nat) (xs : List Rmv) (w : World) (B : Nat) (hm : xs.length ≤ 1000) (hB : B ≤ w.heap.size) (hx : Rd w B 4 A xs.length (rV xs)) (hv : ∀ k, k < xs.length → 1 ≤ (at0 xs k).k ∧ (at0 xs k).k ≤ 4) :
 Calls Try.prog 79 #[.slice A xs.length c, .func (Fn.func 80) #[] #[]] w fun e w' => e = .returned (.bool (srt xs (xs.length - 1))) ∧ Below w.heap.size w w' := by
 have HX : Hid (∀ V, Below w.heap.size w V → Rd V B 4 A xs.length (rV xs)) := fun V hV => hx.below (hV.mono hB)
 have HV := Lib.hid hv
 have HM := Lib.hid hm
 obtain ⟨u0, hu0⟩ := ovr_self w
 have H0 := Lib.hid hu0
 clear hx hB hv hu0
 have kw : IntKind.i64.wrap ((xs.length : Int) - 1) = (xs.length : Int) - 1 := IntWalk.i64_in _ (by omega)
 have HUw : Hid (∀ u, Below w.heap.size w (ovr w u)) := fun u => ovr_below _ _
 go_enter Try.func79, Try.ntmps79
 go_wp2_with fail
 clear kw
 go_loopw [5] (fun i wr => ∃ m : Int, (-1 ≤ m ∧ m ≤ (xs.length : Int) - 1) ∧ i = .int .i64 m ∧ (∀ j : Nat, m ≤ (j : Int) → j < xs.length - 1 → (at0 xs j).k ≤ (at0 xs (j + 1)).k) ∧ ∃ u, wr = ovr w u) (fun i _ => (intOf i).toNat)
 case atStart => exact ⟨_, ⟨by omega, Int.le_refl _⟩, rfl, fun j h1 h2 => absurd h2 (by omega), u0, H0.out⟩
 case round =>
  obtain ⟨m, hmm, rfl, hall, u, rfl⟩ := hrel
  have HA := Lib.hid hall
  clear hall
  by_cases h0 : 0 < m
  case neg =>
   have hf : Hid (srt xs (xs.length - 1) = true) := srt_iff.2 fun k hk => HA.out k (by omega) hk
   have d0 : decide (0 < m) = false := decide_eq_false h0
   go_wp2_with fail
   go_ret
   exact ⟨by rw [hf.out]; rfl, ovr_below _ _⟩
  obtain ⟨k, rfl⟩ : ∃ k : Nat, m = ((k + 1 : Nat) : Int) := ⟨(m - 1).toNat, by omega⟩
  have hlt : k + 1 < xs.length := by omega
  obtain ⟨b, o, rfl, _, e0, e1, e2, e3⟩ := rd_rmv (HX.out _ (ovr_below w u)) hlt
  obtain ⟨_, _, hbo, _, f0, f1, f2, f3⟩ := rd_rmv (HX.out _ (ovr_below w u)) (show k < xs.length by omega)
  injection hbo with hbo
  injection hbo with hbo1 hbo2
  subst hbo1 hbo2
  have hk1000 : k ≤ 1000 := by have := HM.out; omega
  obtain ⟨kn, hkn⟩ : ∃ n, n = k + 1 := ⟨_, rfl⟩
  have HK1 := HV.out (k + 1) hlt
  have HK0 := HV.out k (by omega)
  have HNX : Hid ((at0 xs k).k ≤ (at0 xs (k + 1)).k → ∀ j : Nat, (k : Int) ≤ (j : Int) → j < xs.length - 1 → (at0 xs j).k ≤ (at0 xs (j + 1)).k) := fun h j h1 h2 => by
   rcases Nat.lt_or_ge k j with h3 | h3
   · exact HA.out j (by omega) h2
   · obtain rfl : j = k := by omega
     exact h
  have HNO : Hid (¬ (at0 xs k).k ≤ (at0 xs (k + 1)).k → srt xs (xs.length - 1) = false) := fun h => by
   rcases hq : srt xs (xs.length - 1) with _ | _
   · rfl
   · exact absurd (srt_iff.1 hq k (by omega)) h
  rw [← hkn] at e0 e1 e2 e3 hlt HK1 HNX HNO ⊢
  obtain ⟨p, hp⟩ : ∃ p, at0 xs kn = p := ⟨_, rfl⟩
  obtain ⟨q, hq⟩ : ∃ q, at0 xs k = q := ⟨_, rfl⟩
  rw [hp] at e0 e1 e2 e3 HK1 HNX HNO
  rw [hq] at f0 f1 f2 f3 HK0 HNX HNO
  have CO := Lib.hid fun V => remove2_any p q V HK1 HK0
  have d0 : decide (0 < (kn : Int)) = true := decide_eq_true (by omega)
  have d0n : decide (0 < kn) = true := decide_eq_true (by omega)
  have hl0 : k < xs.length := by omega
  have j1 : IntKind.i64.wrap ((kn : Int) - 1) = (k : Int) := (IntWalk.i64_in _ (by omega)).trans (by omega)
  have HKN := Lib.hid hkn
  clear hp hq hmm h0 hkn
  go_upto_region 4 with fail
  have hbX := ovr_below w u
  obtain ⟨X, hX⟩ : ∃ X, X = ovr w u := ⟨_, rfl⟩
  rw [← hX] at hbX
  rw [← hX]
  have hX' := Lib.hid hX
  clear hX
  have hbX' := Lib.hid hbX
  have reX : ∀ v, ∃ x, ovr X v = ovr w x := fun v => ovr_reB hbX v
  have HBX : Hid (∀ u, Below w.heap.size w (ovr X u)) := fun u => by obtain ⟨x, hx⟩ := reX u; rw [hx]; exact ovr_below _ _
  clear reX hbX
  rw [← hX'.out] at e0 e1 e2 e3 f0 f1 f2 f3
  have a0 := ovr_cell e0
  have a1 := ovr_cell e1
  have a2 := ovr_cell e2
  have a3 := ovr_cell e3
  have b0 := ovr_cell f0
  have b1 := ovr_cell f1
  have b2 := ovr_cell f2
  have b3 := ovr_cell f3
  refine wp_region_make (fun j => if j = 10 then some (fun u _ => u = I (p.k - q.k)) else none) (by kernel_rfl) (by kernel_rfl) (by kernel_rfl) ?_
  repeat (first | (refine wpG_one rfl rfl rfl ?_; intro K hK; go_big_quiet_op; go_big_quiet_on) | (refine wpG_skip rfl ?_; simp only [Act.put, List.setIfInBounds_toArray, List.set_cons_zero, List.set_cons_succ]))
  refine wpG_make (fun u _ => u = I (p.k - q.k)) rfl rfl (fun w' hw' hk => ?_) (fun u hu => ?_)
  · go_simp
    exact call_grow (CO.out w')
  obtain ⟨_, _, rfl⟩ := hu
  simp only [Act.put, List.setIfInBounds_toArray, List.set_cons_zero, List.set_cons_succ]
  repeat (first | (refine wpG_one rfl rfl rfl ?_; intro K hK; go_big_quiet_op; go_big_quiet_on) | (refine wpG_skip rfl ?_; simp only [Act.put, List.setIfInBounds_toArray, List.set_cons_zero, List.set_cons_succ]))
  refine wpG_nil (fun w5 hw5 hG => ?_)
  clear hG
  obtain ⟨x5, rfl⟩ : ∃ z, w5 = ovr X z := ⟨w5, ovr_of hw5.le⟩
  clear hw5 a0 a1 a2 a3 b0 b1 b2 b3 e0 e1 e2 e3 f0 f1 f2 f3 CO
  have HBX2 : Hid (∀ v, Below w.heap.size w (ovr X v)) := fun v => (by rw [hX'.out]; exact (ovr_below w u).trans ((ovr_below (ovr w u) v).mono (ovr_below w u).size))
  by_cases hle : q.k ≤ p.k
  · have dl : decide (p.k - q.k < 0) = false := decide_eq_false (by omega)
    rw [dl]
    have HN := Lib.hid (HNX.out hle)
    clear hle
    go_wp2_with fail
    refine ⟨⟨(k : Int), ⟨by omega, by omega⟩, rfl, HN.out, ⟨_, ovr_of (HBX2.out x5)⟩⟩, ?_⟩
    have := HKN.out
    show (k : Int).toNat < (kn : Int).toNat
    omega
  · have dl : decide (p.k - q.k < 0) = true := decide_eq_true (by omega)
    rw [dl]
    have HN := Lib.hid (HNO.out hle)
    clear hle
    go_wp2_with fail
    go_ret
    exact ⟨by rw [HN.out]; rfl, HBX2.out _⟩
end Go.Proofs.Ytljjpidigckheaa.Un
