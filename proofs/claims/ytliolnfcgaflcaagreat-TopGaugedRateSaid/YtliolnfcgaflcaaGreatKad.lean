/- Contracts of grid and exact of package finish. Contract of exact of package finish. Contract of through of package finish. Plain law of chapter 9: what 'touching' looks for is there (no program in sight but the names of Kc). -/
import Derived.Test.YtliolnfcgaflcaaGreatFra
namespace Go.Proofs.YtliolnfcgaflcaaGreat.Un
open Go.RowKit
def gP (W : Nat) (k j : Nat) : Value := if j = 0 then I (k : Int) else if j = 1 then I ((k : Int) % (W : Int)) else I ((k : Int) / (W : Int))
theorem gP_flat (W k : Nat) : flat 3 (gP W) (k + 1) = flat 3 (gP W) k ++ [I (k : Int), I ((k : Int) % (W : Int)), I ((k : Int) / (W : Int))] := flat_succ 3 (by decide) _ _
theorem point_info : (Tryz.prog.info? 96).map (fun i => (i.zero, i.size, i.bytes)) = some (some (.agg #[I 0, I 0, I 0]), 3, 24) := by kernel_rfl
set_option maxRecDepth 100000 in
set_option maxHeartbeats 4000000 in
theorem grid_any (W H : Nat) (w : World) (hW : 1 ≤ W ∧ W ≤ 6) (hH : H ≤ 6) :
 Calls Tryz.prog 35 #[I (W : Int), I (H : Int)] w fun e w' => ∃ v, e = .returned v ∧ w'.ownsRow w.heap.size 96 3 v (W * H) (flat 3 (gP W) (W * H)) ∧ Below w.heap.size w w' := by
 have hm : W * H ≤ 36 := Nat.mul_le_mul hW.2 hH
 have HM : Hid (W * H ≤ 36) := hm
 have HW := Lib.hid hW
 have hc : (W : Int) * (H : Int) = ((W * H : Nat) : Int) := by rw [Int.natCast_mul]
 have k1 : IntKind.i64.wrap ((W * H : Nat) : Int) = ((W * H : Nat) : Int) := IntWalk.i64_in _ (by omega)
 obtain ⟨n, hn⟩ : ∃ n, W * H = n := ⟨_, rfl⟩
 rw [hn] at hm HM hc k1 ⊢
 clear hn hW hH hm
 go_enter Tryz.func35, Tryz.ntmps35
 go_wp2_with fail
 go_loopw [10, 5] (fun iv v wr => ∃ k : Nat, k ≤ n ∧ iv = .int .i64 k ∧ wr.ownsRow w.heap.size 96 3 v k (flat 3 (gP W) k) ∧ Below w.heap.size w wr) (fun iv _ _ => n - (intOf iv).toNat)
 case atStart => exact ⟨0, Nat.zero_le _, rfl, World.ownsRow_nil _ _ _ _, Below.refl _ _⟩
 case round =>
  obtain ⟨k, hk, rfl, hown, hbw⟩ := hrel
  rename World => V
  have HO := Lib.hid (And.intro hown hbw)
  clear hown hbw
  by_cases hlt : k < n
  case neg =>
   obtain rfl : k = n := by omega
   have d0 : decide ((k : Int) < (k : Int)) = false := decide_eq_false (by omega)
   go_wp2_with fail
   go_ret
   exact ⟨_, rfl, HO.out.1, HO.out.2⟩
  have HLT := Lib.hid hlt
  have hk36 : k ≤ 36 := by have := HM.out; omega
  have d0 : decide ((k : Int) < (n : Int)) = true := decide_eq_true (by omega)
  have kk : ∀ m : Nat, m ≤ 36 → IntKind.i64.wrap (m : Int) = m := fun m h => IntWalk.i64_in _ (by omega)
  have k2 := kk _ (show k % W ≤ 36 by have := Nat.mod_le k W; omega)
  have k3 := kk _ (show k / W ≤ 36 by have := Nat.div_le_self k W; omega)
  rw [Int.natCast_emod] at k2
  rw [Int.natCast_ediv] at k3
  have kw : (W = 0) = False := eq_false (by have := HW.out; omega)
  clear hlt kk
  obtain ⟨i0, hi0, iz0, iz1, iz2⟩ := info_parts point_info
  go_upto_region 5 with fail
  refine wp_region_seq2 10 (fun j => if j = 9 then some (SlN V #[I (k : Int), I ((k : Int) % (W : Int)), I ((k : Int) / (W : Int))] 96 1) else none) (by kernel_rfl) (by kernel_rfl) (by kernel_rfl) (by kernel_rfl) (by kernel_rfl) ?_
  simp only [List.take_succ_cons, List.take_zero, List.drop_succ_cons, List.drop_zero]
  repeat (first | (refine wpG_one rfl rfl rfl ?_; intro K hK; go_big_quiet_op; go_big_quiet_on) | (refine wpG_skip rfl ?_; simp only [Act.put, List.setIfInBounds_toArray, List.set_cons_zero, List.set_cons_succ]))
  refine wpG_make (SlN V #[I (k : Int), I ((k : Int) % (W : Int)), I ((k : Int) / (W : Int))] 96 1) rfl rfl (fun w' hw' hk => ?_) (fun u hu => ?_)
  · go_simp
    exact sln_grow hw'
  obtain ⟨_, _, SB, rfl, _, _⟩ := hu
  simp only [Act.put, List.setIfInBounds_toArray, List.set_cons_zero, List.set_cons_succ]
  repeat (first | (refine wpG_one rfl rfl rfl ?_; intro K hK; go_big_quiet_op; go_big_quiet_on) | (refine wpG_skip rfl ?_; simp only [Act.put, List.setIfInBounds_toArray, List.set_cons_zero, List.set_cons_succ]))
  refine wpG_nil (fun w5 hw5 hG => ?_)
  have hB := hG.2.now.at
  have hgr := le_grown (show Le V w5 from hw5.le) none
  have hO := own_otherF HO.out.1 hgr (fun b hb => by simp)
  have hbw := HO.out.2.trans ((show Below V.heap.size V w5 from hw5.le).mono HO.out.2.size)
  clear hG hw5 hgr
  refine wpTailIn_cons Wd.wide (by intro c h; cases h) ?_
  refine wp_app_ownF _ _ 93 rfl w.heap.size 96 i0 (.agg #[I 0, I 0, I 0]) 3 24 Tryz.underlying93 hi0 iz0 iz1 iz2 rfl (by decide) _ _ _ rfl hO ⟨SB, 0, none⟩ 1 [I (k : Int), I ((k : Int) % (W : Int)), I ((k : Int) / (W : Int))] rfl rfl (news_lit hB.1) (by simp [Value.oneCell']) (by omega) (by decide) hbw.size (fun v2 w6 hO2 hg6 hOb2 => ?_)
  have hb6 := hbw.grown hg6 hbw.size (fun k e => (hO.lt k e).1)
  rw [← gP_flat] at hO2
  have HN := Lib.hid (And.intro hO2 hb6)
  clear hO hbw hO2 hg6 hOb2 hb6 hB HO
  refine wpTailIn_cons Wd.wide (by intro c h; cases h) ?_
  unfold Oper.wp
  go_simp
  refine wpTailIn_nil ?_
  (try simp only [Act.put])
  go_wp2_with fail
  go_roundw
  case rel => exact ⟨k + 1, HLT.out, by go_num, HN.out.1, HN.out.2⟩
  case measure => have := HLT.out; simp [intOf]; omega
end Go.Proofs.YtliolnfcgaflcaaGreat.Un
namespace Go.Proofs.YtliolnfcgaflcaaGreat.Un
open Go.RowKit
def exA (zs : List Int) (n k : Nat) : Array Value := Array.ofFn (n := n * 2) fun t => if t.1 / 2 < k then I (at0 zs (t.1 / 2)) else I 0
theorem exA_size {zs : List Int} {n k : Nat} : (exA zs n k).size = n * 2 := by simp [exA]
theorem exA_at {zs : List Int} {n k t : Nat} (h : t < n * 2) : (exA zs n k)[t]? = some (if t / 2 < k then I (at0 zs (t / 2)) else I 0) := by simp [exA, h]
theorem exA_set {zs : List Int} {n k : Nat} {z : Int} (_hk : k < n) (hz : at0 zs k = z) : ((exA zs n k).setIfInBounds (k * 2) (I z)).setIfInBounds (k * 2 + 1) (I z) = exA zs n (k + 1) := by
 apply Array.ext_getElem?
 intro t
 by_cases ht : t < n * 2
 · rw [exA_at ht]
   by_cases h1 : t = k * 2 + 1
   · subst h1
     rw [Array.getElem?_setIfInBounds_self_of_lt (by simp [exA_size]; omega), if_pos (by omega), show (k * 2 + 1) / 2 = k by omega, hz]
   · rw [Array.getElem?_setIfInBounds_ne (by omega)]
     by_cases h2 : t = k * 2
     · subst h2
       rw [Array.getElem?_setIfInBounds_self_of_lt (by rw [exA_size]; omega), if_pos (by omega), show (k * 2) / 2 = k by omega, hz]
     · rw [Array.getElem?_setIfInBounds_ne (by omega), exA_at ht]
       by_cases h3 : t / 2 < k
       · rw [if_pos h3, if_pos (by omega)]
       · rw [if_neg h3, if_neg (by omega)]
 · rw [Array.getElem?_eq_none (by simp [exA_size]; omega), Array.getElem?_eq_none (by rw [exA_size]; omega)]
theorem rng9_info : (Tryz.prog.info? 24).map (fun i => (i.zero, i.size, i.bytes)) = some (some (.agg #[I 0, I 0]), 2, 16) := by kernel_rfl
set_option maxRecDepth 100000 in
theorem make_rngs9 (W : World) (zs : List Int) (n : Nat) (hn : n ≤ 1000) : (Instr.makeSlice 52 (.int .i64 (n : Int)) (.int .i64 (n : Int))).run Tryz.prog W = .ok (.slice (some ⟨W.heap.size, 0, none⟩) n n) (W.alloc (.cells (exA zs n 0) 24)) := by
 obtain ⟨i0, hi0, iz0, iz1, iz2⟩ := info_parts rng9_info
 have h := run_make (P := Tryz.prog) W 52 24 i0 (.agg #[I 0, I 0]) Tryz.underlying52 hi0 iz0 .i64 .i64 (n : Int) (n : Int) (by omega) (by omega) (by rw [iz2]; omega) (by omega)
 rw [h, iz1]
 simp only [Int.toNat_natCast]
 congr 3
 apply Array.ext_getElem?
 intro t
 by_cases ht : t < n * 2
 · rw [exA_at ht, if_neg (by omega)]
   have h3 : t % 2 < 2 := Nat.mod_lt _ (by omega)
   simp [madeCells, ht, Value.cells]
   match t % 2, h3 with
   | 0, _ => rfl
   | 1, _ => rfl
 · rw [Array.getElem?_eq_none (by simp [madeCells]; omega), Array.getElem?_eq_none (by rw [exA_size]; omega)]
def exR (zs : List Int) : List Rng := zs.map fun z => ⟨z, z⟩
theorem exR_at {zs : List Int} {k : Nat} (h : k < zs.length) : at0 (exR zs) k = ⟨at0 zs k, at0 zs k⟩ := by
 rw [at0_get (by simp [exR]; exact h), at0_get h]
 simp [exR]
theorem exA_rd {w : World} {b : Nat} {zs : List Int} (h : w.heap[b]? = some (.cells (exA zs zs.length zs.length) 24 (0, 0))) : Rd w w.heap.size 2 (some ⟨b, 0, none⟩) zs.length (rR (exR zs)) := fun hn => by
 refine ⟨b, 0, rfl, lt_of_row h, fun k hk j hj => ?_⟩
 rw [cell_of_row _ _ _ _ _ _ h, exA_at (by omega), if_pos (by omega), show (0 + k * 2 + j) / 2 = k by omega]
 have : j = 0 ∨ j = 1 := by omega
 rcases this with rfl | rfl <;> (simp only [rR, exR_at hk]; rfl)
set_option maxRecDepth 100000 in
set_option maxHeartbeats 4000000 in
theorem exact_any (zs : List Int) (A : Option Addr) (c B : Nat) (w : World) (hn : zs.length ≤ 1000) (hB : B ≤ w.heap.size) (hx : Rd w B 1 A zs.length (rI zs)) :
 Calls Tryz.prog 33 #[.slice A zs.length c] w fun e w' => ∃ b, e = .returned (.slice (some ⟨b, 0, none⟩) zs.length zs.length) ∧ w.heap.size ≤ b ∧ w'.heap[b]? = some (.cells (exA zs zs.length zs.length) 24 (0, 0)) ∧ Below w.heap.size w w' := by
 have HRD : Hid (∀ V, Below w.heap.size w V → Rd V B 1 A zs.length (rI zs)) := fun V hV => hx.below (hV.mono hB)
 have hmk : ∀ W : World, (Instr.makeSlice 52 (.int .i64 (zs.length : Int)) (.int .i64 (zs.length : Int))).run Tryz.prog W = .ok (.slice (some ⟨W.heap.size, 0, none⟩) zs.length zs.length) (W.alloc (.cells (exA zs zs.length 0) 24)) := fun W => make_rngs9 W zs _ hn
 have HN := Lib.hid hn
 clear hx hB hn
 go_enter Tryz.func33, Tryz.ntmps33
 go_wp2_with fail
 obtain ⟨V, hV⟩ : ∃ V, V = w.alloc (.cells (exA zs zs.length 0) 24) := ⟨_, rfl⟩
 have rV : V.heap[w.heap.size]? = some (.cells (exA zs zs.length 0) 24 (0, 0)) := by rw [hV]; exact heap_last _ _ _ rfl
 have bV : Below w.heap.size w V := by rw [hV]; exact (Below.refl _ _).alloc (Nat.le_refl _) _
 have HV := Lib.hid (And.intro rV bV)
 rw [← hV]
 clear hV rV bV hmk
 go_loopw [11] (fun iv wr => ∃ k : Nat, k ≤ zs.length ∧ iv = .int .i64 k ∧ wr.heap[w.heap.size]? = some (.cells (exA zs zs.length k) 24 (0, 0)) ∧ Below w.heap.size w wr) (fun iv _ => zs.length - (intOf iv).toNat)
 case atStart => exact ⟨0, Nat.zero_le _, rfl, HV.out.1, HV.out.2⟩
 case round =>
  obtain ⟨k, hk, rfl, hrow, hbw⟩ := hrel
  rename World => Y
  by_cases hlt : k < zs.length
  case neg =>
   obtain rfl : k = zs.length := by omega
   have HH := Lib.hid (And.intro hrow hbw)
   have d0 : decide ((zs.length : Int) < (zs.length : Int)) = false := decide_eq_false (by omega)
   clear hrow hbw
   go_wp2_with fail
   go_ret
   exact ⟨_, rfl, Nat.le_refl _, HH.out.1, HH.out.2⟩
  obtain ⟨b, o, rfl, hbB, e0⟩ := rd_int9 (HRD.out Y hbw) hlt
  have HLT := Lib.hid hlt
  have hk9 : k ≤ 1000 := by have := HN.out; omega
  have d0 : decide ((k : Int) < (zs.length : Int)) = true := decide_eq_true (by omega)
  have d1 : decide (k < zs.length) = true := decide_eq_true hlt
  have d2 : decide (0 ≤ (k : Int)) = true := decide_eq_true (by omega)
  obtain ⟨z, hz⟩ : ∃ z, at0 zs k = z := ⟨_, rfl⟩
  rw [hz] at e0
  have HZ := Lib.hid hz
  have c0 : Y.cell? ⟨w.heap.size, k * 2, none⟩ = some (I 0) := by rw [cell_of_row _ _ _ _ _ _ hrow, exA_at (by omega), if_neg (by omega)]
  have hrow1 := rs hrow (k * 2) (I z)
  have c1 : (Y.setCell ⟨w.heap.size, k * 2, none⟩ (I z)).cell? ⟨w.heap.size, k * 2 + 1, none⟩ = some (I 0) := by rw [cell_of_row _ _ _ _ _ _ hrow1, Array.getElem?_setIfInBounds_ne (by omega), exA_at (by omega), if_neg (by omega)]
  have f0 := frozen_of_row _ _ (k * 2) _ _ hrow
  have f1 := frozen_of_row _ _ (k * 2 + 1) _ _ hrow1
  have hrow2 := rs hrow1 (k * 2 + 1) (I z)
  rw [exA_set hlt hz] at hrow2
  have HN2 : Hid (((Y.setCell ⟨w.heap.size, k * 2, none⟩ (I z)).setCell ⟨w.heap.size, k * 2 + 1, none⟩ (I z)).heap[w.heap.size]? = some (.cells (exA zs zs.length (k + 1)) 24 (0, 0)) ∧ Below w.heap.size w ((Y.setCell ⟨w.heap.size, k * 2, none⟩ (I z)).setCell ⟨w.heap.size, k * 2 + 1, none⟩ (I z))) :=
   ⟨hrow2, sc_below (sc_below hbw (Nat.le_refl _) _ _) (Nat.le_refl _) _ _⟩
  clear hrow hbw hrow1 hrow2 hz hlt
  go_wp2_with fail
  go_roundw
  case rel => exact ⟨k + 1, HLT.out, by go_num, HN2.out.1, HN2.out.2⟩
  case measure => have := HLT.out; simp [intOf]; omega
end Go.Proofs.YtliolnfcgaflcaaGreat.Un
namespace Go.Proofs.YtliolnfcgaflcaaGreat.Un
open Go.RowKit
def InM (z : Int) : Prop := -1000000000 ≤ z ∧ z ≤ 1000000000
def thrR (a b c : Pt) (za zb zc D : Int) : Pln := if crs a b c = 0 then ⟨0, 0, 0, 0⟩ else thr a b c za zb zc D
theorem results_cell_t9 {P : Program} {fn : Func} {p t1 : Tmp} {ty : TypeId} (h : fn.results = #[.cell p ty, .tmp t1]) (tmps : Array Value) (w : World) (g : Nat) (t : TypeId) (cs : Array Value) (fr : Nat × Nat) (d : TypeDesc)
 (hp : tmps.getD p undef = .pointer (some ⟨g, 0, none⟩)) (hg : w.heap[g]? = some (.cells cs t fr))
 (hu : P.underlying ty = some d) (hd : (match d with | .struct _ | .array _ _ => true | _ => false) = true) (hi : (P.info? ty).map (·.size) = some cs.size) :
 (results fn tmps).run P w = .ok (.tuple #[.agg cs, tmps.getD t1 undef]) w := by
 have hp' : tmps[p]?.getD undef = .pointer (some ⟨g, 0, none⟩) := by simpa using hp
 simp [results, h, hp', asAddr, run_loadVar_row w g t ty cs fr d hg hu hd hi]
set_option maxRecDepth 100000 in
set_option maxHeartbeats 4000000 in
theorem through_any (a b c : Pt) (za zb zc D : Int) (w : World) (ha : InG a) (hb : InG b) (hc : InG c) (ma : InM za) (mb : InM zb) (mc : InM zc) (hD : 1 ≤ D ∧ D ≤ 200) :
 Calls Tryz.prog 70 #[.agg #[I (a.at_ : Int), I a.x, I a.y, I (b.at_ : Int), I b.x, I b.y, I (c.at_ : Int), I c.x, I c.y], .agg #[I za, I zb, I zc], I D] w fun e w' =>
  e = .returned (.tuple #[.agg (plA (thrR a b c za zb zc D)), .bool (decide (crs a b c ≠ 0))]) ∧ Below w.heap.size w w' := by
 have CC := Lib.hid fun V => cross_any a b c V ha hb hc
 have C1 := Lib.hid fun V => minus_any b a V hb ha
 have C2 := Lib.hid fun V => minus_any c a V hc ha
 have hn := crs_bd ha hb hc
 have hf : Hid (thrR a b c za zb zc D = if crs a b c = 0 then ⟨0, 0, 0, 0⟩ else (thr0 a b c za zb zc D).pos) := rfl
 have h0 : Hid (thr0 a b c za zb zc D = ⟨(zb - za) * (c.y - a.y) - (zc - za) * (b.y - a.y), (b.x - a.x) * (zc - za) - (c.x - a.x) * (zb - za), crs a b c * za - ((zb - za) * (c.y - a.y) - (zc - za) * (b.y - a.y)) * a.x - ((b.x - a.x) * (zc - za) - (c.x - a.x) * (zb - za)) * a.y, crs a b c * D⟩) := rfl
 unfold InG at ha hb hc
 unfold InM at ma mb mc
 have hdx : -5 ≤ b.x - a.x ∧ b.x - a.x ≤ 5 := by omega
 have hdy : -5 ≤ b.y - a.y ∧ b.y - a.y ≤ 5 := by omega
 have hex : -5 ≤ c.x - a.x ∧ c.x - a.x ≤ 5 := by omega
 have hey : -5 ≤ c.y - a.y ∧ c.y - a.y ≤ 5 := by omega
 have hu : -2000000000 ≤ zb - za ∧ zb - za ≤ 2000000000 := by omega
 have hv : -2000000000 ≤ zc - za ∧ zc - za ≤ 2000000000 := by omega
 have ku : IntKind.i64.wrap (zb - za) = zb - za := IntWalk.i64_in _ (by omega)
 have kv : IntKind.i64.wrap (zc - za) = zc - za := IntWalk.i64_in _ (by omega)
 obtain ⟨n, hnn⟩ : ∃ n, crs a b c = n := ⟨_, rfl⟩
 rw [hnn] at CC hn hf h0
 rw [hnn]
 have HAX : Hid ((0 ≤ a.x ∧ a.x ≤ 5) ∧ 0 ≤ a.y ∧ a.y ≤ 5) := ⟨ha.1, ha.2.1⟩
 have HMZ := Lib.hid ma
 clear ha hb hc ma mb mc hnn
 obtain ⟨W, hW⟩ : ∃ W, W = (((w.alloc (.cells #[I (a.at_ : Int), I a.x, I a.y, I (b.at_ : Int), I b.x, I b.y, I (c.at_ : Int), I c.x, I c.y] 145)).alloc (.cells #[I za, I zb, I zc] 144)).alloc (.cells #[I 0, I 0, I 0, I 0] 109)) := ⟨_, rfl⟩
 have rowW0 : W.heap[w.heap.size]? = some (.cells #[I (a.at_ : Int), I a.x, I a.y, I (b.at_ : Int), I b.x, I b.y, I (c.at_ : Int), I c.x, I c.y] 145 (0, 0)) := by rw [hW]; exact heap_before (heap_before (heap_last _ _ _ rfl))
 have yW00 := ovr_cell (W := W) (b := w.heap.size) (o := 0) (v := I (a.at_ : Int)) (by rw [cell_of_row _ _ _ _ _ _ rowW0]; rfl)
 have yW01 := ovr_cell (W := W) (b := w.heap.size) (o := 1) (v := I a.x) (by rw [cell_of_row _ _ _ _ _ _ rowW0]; rfl)
 have yW02 := ovr_cell (W := W) (b := w.heap.size) (o := 2) (v := I a.y) (by rw [cell_of_row _ _ _ _ _ _ rowW0]; rfl)
 have yW03 := ovr_cell (W := W) (b := w.heap.size) (o := 3) (v := I (b.at_ : Int)) (by rw [cell_of_row _ _ _ _ _ _ rowW0]; rfl)
 have yW04 := ovr_cell (W := W) (b := w.heap.size) (o := 4) (v := I b.x) (by rw [cell_of_row _ _ _ _ _ _ rowW0]; rfl)
 have yW05 := ovr_cell (W := W) (b := w.heap.size) (o := 5) (v := I b.y) (by rw [cell_of_row _ _ _ _ _ _ rowW0]; rfl)
 have yW06 := ovr_cell (W := W) (b := w.heap.size) (o := 6) (v := I (c.at_ : Int)) (by rw [cell_of_row _ _ _ _ _ _ rowW0]; rfl)
 have yW07 := ovr_cell (W := W) (b := w.heap.size) (o := 7) (v := I c.x) (by rw [cell_of_row _ _ _ _ _ _ rowW0]; rfl)
 have yW08 := ovr_cell (W := W) (b := w.heap.size) (o := 8) (v := I c.y) (by rw [cell_of_row _ _ _ _ _ _ rowW0]; rfl)
 have RrowW0 := Lib.hid (ovr_row rowW0)
 clear rowW0
 have rowW1 : W.heap[w.heap.size + 1]? = some (.cells #[I za, I zb, I zc] 144 (0, 0)) := by rw [hW]; exact heap_before (heap_last _ _ _ (by simp))
 have yW10 := ovr_cell (W := W) (b := w.heap.size + 1) (o := 0) (v := I za) (by rw [cell_of_row _ _ _ _ _ _ rowW1]; rfl)
 have yW11 := ovr_cell (W := W) (b := w.heap.size + 1) (o := 1) (v := I zb) (by rw [cell_of_row _ _ _ _ _ _ rowW1]; rfl)
 have yW12 := ovr_cell (W := W) (b := w.heap.size + 1) (o := 2) (v := I zc) (by rw [cell_of_row _ _ _ _ _ _ rowW1]; rfl)
 have RrowW1 := Lib.hid (ovr_row rowW1)
 clear rowW1
 have rowW2 : W.heap[w.heap.size + 1 + 1]? = some (.cells #[I 0, I 0, I 0, I 0] 109 (0, 0)) := by rw [hW]; exact heap_last _ _ _ (by simp)
 have yW20 := ovr_cell (W := W) (b := w.heap.size + 1 + 1) (o := 0) (v := I 0) (by rw [cell_of_row _ _ _ _ _ _ rowW2]; rfl)
 have yW21 := ovr_cell (W := W) (b := w.heap.size + 1 + 1) (o := 1) (v := I 0) (by rw [cell_of_row _ _ _ _ _ _ rowW2]; rfl)
 have yW22 := ovr_cell (W := W) (b := w.heap.size + 1 + 1) (o := 2) (v := I 0) (by rw [cell_of_row _ _ _ _ _ _ rowW2]; rfl)
 have yW23 := ovr_cell (W := W) (b := w.heap.size + 1 + 1) (o := 3) (v := I 0) (by rw [cell_of_row _ _ _ _ _ _ rowW2]; rfl)
 have RrowW2 := Lib.hid (ovr_row rowW2)
 clear rowW2
 have HUW : Hid (∀ u, Below w.heap.size w (ovr W u)) := U3 hW
 have HW := Lib.hid hW
 clear hW
 go_enter Tryz.func70, Tryz.ntmps70
 go_upto_region 1 with (fail)
 rw [← HW.out]
 obtain ⟨u0, hu0⟩ := ovr_self W
 rw [hu0]
 clear hu0
 go_wp2_with fail
 refine (CC.out _).mono ?_
 rintro e w1 ⟨rfl, hb1⟩
 obtain ⟨u1, rfl⟩ := ovr_next hb1
 clear hb1
 by_cases hn0 : n = 0
 · have d0 : (n == 0) = true := by simp [hn0]
   rw [if_pos hn0] at hf
   have hnn : Hid (decide (n ≠ 0) = false) := by show _ = _; simp [hn0]
   clear hn0 hn h0 hdx hdy hex hey hu hv ku kv
   go_wp2_with (with_reducible show wpList _ _ _ _ _ _; refine wpList_store_row rfl 109 _ _ rfl (w.heap.size + 1 + 1) rfl _ _ (RrowW2.out _) #[I 0, I 0, I 0, I 0] rfl (by simp [Value.oneCell']) rfl (by kernel_rfl) ?_)
   refine bodyPost_ret (results_cell_t9 rfl _ _ (w.heap.size + 1 + 1) 109 _ (0, 0) _ rfl (setRow_same (RrowW2.out _)) Tryz.underlying109 rfl (by kernel_rfl)) rfl ?_
   exact ⟨by rw [hf.out, hnn.out]; rfl, below_setRow (HUW.out _) (by omega) _⟩
 have d0 : (n == 0) = false := by simp [hn0]
 rw [if_neg hn0] at hf
 have hnn : Hid (decide (n ≠ 0) = true) := by show _ = _; simp [hn0]
 have HN0 := Lib.hid hn0
 clear hn0
 go_wp2_with fail
 refine (C1.out _).mono ?_
 rintro e w1 ⟨rfl, hb1⟩
 obtain ⟨u2, rfl⟩ := ovr_next hb1
 clear hb1
 go_wp2_with fail
 refine (C2.out _).mono ?_
 rintro e w1 ⟨rfl, hb1⟩
 obtain ⟨u3, rfl⟩ := ovr_next hb1
 clear hb1
 go_upto_region 6 with fail
 obtain ⟨V, hV⟩ : ∃ V, V = ovr W u3 := ⟨_, rfl⟩
 have rA : V.heap[w.heap.size]? = some (.cells #[I (a.at_ : Int), I a.x, I a.y, I (b.at_ : Int), I b.x, I b.y, I (c.at_ : Int), I c.x, I c.y] 145 (0, 0)) := by rw [hV]; exact RrowW0.out u3
 have rB : V.heap[w.heap.size + 1]? = some (.cells #[I za, I zb, I zc] 144 (0, 0)) := by rw [hV]; exact RrowW1.out u3
 have rC : V.heap[w.heap.size + 1 + 1]? = some (.cells #[I 0, I 0, I 0, I 0] 109 (0, 0)) := by rw [hV]; exact RrowW2.out u3
 have HBV : Hid (Below w.heap.size w V) := by show Below _ _ _; rw [hV]; exact HUW.out u3
 have p1 := cell_row9 rA (j := 1) rfl
 have p2 := cell_row9 rA (j := 2) rfl
 have q0 := cell_row9 rB (j := 0) rfl
 have q1 := cell_row9 rB (j := 1) rfl
 have q2 := cell_row9 rB (j := 2) rfl
 have HRV := Lib.hid rC
 have HVS : Hid (w.heap.size + 1 + 1 < V.heap.size) := lt_of_row rC
 rw [← hV]
 clear hV rA rB rC HUW
 refine wp_region_make (fun _ => none) (by kernel_rfl) (by kernel_rfl) (by kernel_rfl) ?_
 repeat (first | (refine wpG_one rfl rfl rfl ?_; intro K hK; go_big_quiet_op; go_big_quiet_on) | (refine wpG_skip rfl ?_; simp only [Act.put, List.setIfInBounds_toArray, List.set_cons_zero, List.set_cons_succ]))
 refine wpG_nil (fun w5 hw5 hG => ?_)
 clear hG
 obtain ⟨x5, rfl⟩ : ∃ z, w5 = ovr V z := ⟨w5, ovr_of hw5.le⟩
 clear hw5 ku kv
 obtain ⟨u, hu'⟩ : ∃ u, zb - za = u := ⟨_, rfl⟩
 obtain ⟨v, hv'⟩ : ∃ v, zc - za = v := ⟨_, rfl⟩
 obtain ⟨dx, hdx'⟩ : ∃ v, b.x - a.x = v := ⟨_, rfl⟩
 obtain ⟨dy, hdy'⟩ : ∃ v, b.y - a.y = v := ⟨_, rfl⟩
 obtain ⟨ex, hex'⟩ : ∃ v, c.x - a.x = v := ⟨_, rfl⟩
 obtain ⟨ey, hey'⟩ : ∃ v, c.y - a.y = v := ⟨_, rfl⟩
 rw [hu', hv', hdx', hdy', hex', hey'] at h0
 rw [hu'] at hu
 rw [hv'] at hv
 rw [hdx'] at hdx
 rw [hdy'] at hdy
 rw [hex'] at hex
 rw [hey'] at hey
 rw [hu', hv', hdx', hdy', hex', hey']
 clear hu' hv' hdx' hdy' hex' hey'
 have b1 := mul_bdF (a := u) (b := ey) (A := 2000000000) (B := 5) hu hey
 have b2 := mul_bdF (a := v) (b := dy) (A := 2000000000) (B := 5) hv hdy
 have b3 := mul_bdF (a := dx) (b := v) (A := 5) (B := 2000000000) hdx hv
 have b4 := mul_bdF (a := ex) (b := u) (A := 5) (B := 2000000000) hex hu
 have b5 := mul_bdF (a := n) (b := D) (A := 50) (B := 200) hn (by omega)
 have k1 : IntKind.i64.wrap (u * ey) = u * ey := IntWalk.i64_in _ (by omega)
 have k2 : IntKind.i64.wrap (v * dy) = v * dy := IntWalk.i64_in _ (by omega)
 have k3 : IntKind.i64.wrap (u * ey - v * dy) = u * ey - v * dy := IntWalk.i64_in _ (by omega)
 have k4 : IntKind.i64.wrap (dx * v) = dx * v := IntWalk.i64_in _ (by omega)
 have k5 : IntKind.i64.wrap (ex * u) = ex * u := IntWalk.i64_in _ (by omega)
 have k6 : IntKind.i64.wrap (dx * v - ex * u) = dx * v - ex * u := IntWalk.i64_in _ (by omega)
 have k7 : IntKind.i64.wrap (n * D) = n * D := IntWalk.i64_in _ (by omega)
 have HA : Hid (-20000000000 ≤ u * ey - v * dy ∧ u * ey - v * dy ≤ 20000000000) := by show _ ∧ _; omega
 have HB : Hid (-20000000000 ≤ dx * v - ex * u ∧ dx * v - ex * u ≤ 20000000000) := by show _ ∧ _; omega
 have HN : Hid (-10000 ≤ n * D ∧ n * D ≤ 10000) := by show _ ∧ _; omega
 clear b1 b2 b3 b4 b5 hu hv hdx hdy hex hey
 go_upto_region 8 with fail
 obtain ⟨A, hA⟩ : ∃ A, u * ey - v * dy = A := ⟨_, rfl⟩
 obtain ⟨B, hB⟩ : ∃ B, dx * v - ex * u = B := ⟨_, rfl⟩
 obtain ⟨N, hNN⟩ : ∃ N, n * D = N := ⟨_, rfl⟩
 rw [hA, hB, hNN] at h0
 rw [hA] at HA
 rw [hB] at HB
 rw [hNN] at HN
 rw [hA, hB, hNN]
 obtain ⟨Z, hZ⟩ : ∃ Z, Z = (ovr V x5).alloc (.cells #[I A, I B, I 0, I N] 109) := ⟨_, rfl⟩
 obtain ⟨q, hq⟩ : ∃ q, q = (ovr V x5).heap.size := ⟨_, rfl⟩
 have rZ : Z.heap[q]? = some (.cells #[I A, I B, I 0, I N] 109 (0, 0)) := by rw [hZ]; exact heap_last _ _ _ hq
 have hbZ : Below V.heap.size V Z := by rw [hZ]; exact (ovr_below V x5).alloc (ovr_below V x5).size _
 have HQV : Hid (V.heap.size ≤ q) := by show _ ≤ _; rw [hq]; exact (ovr_below V x5).size
 rw [← hq, ← hZ]
 obtain ⟨z1, hz1⟩ : ∃ z, Z = ovr V z := ⟨Z, ovr_of hbZ⟩
 have g1 : Z.cell? ⟨w.heap.size, 1, none⟩ = some (I a.x) := by rw [hz1]; exact p1 z1
 have g2 : Z.cell? ⟨w.heap.size, 2, none⟩ = some (I a.y) := by rw [hz1]; exact p2 z1
 have g3 : Z.cell? ⟨w.heap.size + 1, 0, none⟩ = some (I za) := by rw [hz1]; exact q0 z1
 have r0 : Z.cell? ⟨q, 0, none⟩ = some (I A) := by rw [cell_of_row _ _ _ _ _ _ rZ]; rfl
 have r1 : Z.cell? ⟨q, 1, none⟩ = some (I B) := by rw [cell_of_row _ _ _ _ _ _ rZ]; rfl
 have r2 : Z.cell? ⟨q, 2, none⟩ = some (I 0) := by rw [cell_of_row _ _ _ _ _ _ rZ]; rfl
 have f2 := frozen_of_row _ _ 2 _ _ rZ
 have HRZ := Lib.hid (And.intro rZ hbZ)
 clear hZ hq hz1 rZ hbZ p1 p2 q0 q1 q2 hA hB hNN k1 k2 k3 k4 k5 k6 k7
 have b1 := mul_bdF (a := n) (b := za) (A := 50) (B := 1000000000) hn HMZ.out
 have b2 := mul_bdF (a := A) (b := a.x) (A := 20000000000) (B := 5) HA.out (by have := HAX.out; omega)
 have b3 := mul_bdF (a := B) (b := a.y) (A := 20000000000) (B := 5) HB.out (by have := HAX.out; omega)
 have k1 : IntKind.i64.wrap (n * za) = n * za := IntWalk.i64_in _ (by omega)
 have k2 : IntKind.i64.wrap (A * a.x) = A * a.x := IntWalk.i64_in _ (by omega)
 have k3 : IntKind.i64.wrap (n * za - A * a.x) = n * za - A * a.x := IntWalk.i64_in _ (by omega)
 have k4 : IntKind.i64.wrap (B * a.y) = B * a.y := IntWalk.i64_in _ (by omega)
 have k5 : IntKind.i64.wrap (n * za - A * a.x - B * a.y) = n * za - A * a.x - B * a.y := IntWalk.i64_in _ (by omega)
 have HC : Hid (-300000000000 ≤ n * za - A * a.x - B * a.y ∧ n * za - A * a.x - B * a.y ≤ 300000000000) := by show _ ∧ _; omega
 clear b1 b2 b3 hn
 go_upto_region 9 with fail
 obtain ⟨C, hC⟩ : ∃ C, n * za - A * a.x - B * a.y = C := ⟨_, rfl⟩
 rw [hC] at h0 HC
 rw [hC]
 obtain ⟨Y, hY⟩ : ∃ Y, Y = Z.setCell ⟨q, 2, none⟩ (I C) := ⟨_, rfl⟩
 have rY : Y.heap[q]? = some (.cells #[I A, I B, I C, I N] 109 (0, 0)) := by rw [hY]; exact rs HRZ.out.1 2 _
 have hbY : Below V.heap.size V Y := by rw [hY]; exact sc_below HRZ.out.2 HQV.out _ _
 rw [← hY]
 have s0 : Y.cell? ⟨q, 0, none⟩ = some (I A) := by rw [cell_of_row _ _ _ _ _ _ rY]; rfl
 have s1 : Y.cell? ⟨q, 1, none⟩ = some (I B) := by rw [cell_of_row _ _ _ _ _ _ rY]; rfl
 have s2 : Y.cell? ⟨q, 2, none⟩ = some (I C) := by rw [cell_of_row _ _ _ _ _ _ rY]; rfl
 have s3 : Y.cell? ⟨q, 3, none⟩ = some (I N) := by rw [cell_of_row _ _ _ _ _ _ rY]; rfl
 have HRY := Lib.hid (And.intro rY (And.intro hbY ((hbY.block _ HVS.out).trans HRV.out)))
 clear hY rY hbY g1 g2 g3 r0 r1 r2 f2 hC k1 k2 k3 k4 k5 HRZ
 have hbYw : Hid (Below w.heap.size w Y) := HBV.out.trans (HRY.out.2.1.mono HBV.out.size)
 have hqn : Hid (w.heap.size + 1 + 1 ≠ q) := by show _ ≠ _; have := HQV.out; have := HVS.out; omega
 by_cases hneg : N < 0
 · have d1 : decide (N < 0) = true := decide_eq_true hneg
   have hpos : Hid ((⟨A, B, C, N⟩ : Pln).pos = ⟨-A, -B, -C, -N⟩) := by show _ = _; unfold Pln.pos; rw [if_pos hneg]
   have w0 : wrap64 (-A) = -A := by have := HA.out; unfold wrap64; omega
   have w1 : wrap64 (-B) = -B := by have := HB.out; unfold wrap64; omega
   have w2 : wrap64 (-C) = -C := by have := HC.out; unfold wrap64; omega
   have w3 : wrap64 (-N) = -N := by have := HN.out; unfold wrap64; omega
   clear hneg
   go_upto_region 11 with (with_reducible show wpList _ _ _ _ _ _; refine wpList_store_row rfl 109 _ _ rfl q rfl _ _ HRY.out.1 #[I (-A), I (-B), I (-C), I (-N)] rfl (by simp [Value.oneCell']) rfl (by kernel_rfl) ?_)
   obtain ⟨X, hX⟩ : ∃ X, X = Y.setRow q #[I (-A), I (-B), I (-C), I (-N)] := ⟨_, rfl⟩
   have rX : X.heap[q]? = some (.cells #[I (-A), I (-B), I (-C), I (-N)] 109 (0, 0)) := by rw [hX]; exact setRow_same HRY.out.1
   have rX2 : X.heap[w.heap.size + 1 + 1]? = some (.cells #[I 0, I 0, I 0, I 0] 109 (0, 0)) := by rw [hX]; exact (Go.Proofs.YtliolnfcgaflcaaGreat.setRow_other hqn.out).trans HRY.out.2.2
   have bX : Below w.heap.size w X := by rw [hX]; exact below_setRow hbYw.out (by have := HQV.out; have := HVS.out; omega) _
   (try simp only [Act.put])
   rw [← hX]
   clear hX
   have HX := Lib.hid (And.intro rX (And.intro rX2 bX))
   clear rX rX2 bX s0 s1 s2 s3 w0 w1 w2 w3
   go_wp2_with (first | (with_reducible show wpList _ _ _ _ _ _; refine wpList_load_row9 rfl 109 _ rfl q rfl _ _ _ _ HX.out.1 Tryz.underlying109 rfl (by kernel_rfl) ?_) | (with_reducible show wpList _ _ _ _ _ _; refine wpList_store_row rfl 109 _ _ rfl (w.heap.size + 1 + 1) rfl _ _ HX.out.2.1 #[I (-A), I (-B), I (-C), I (-N)] rfl (by simp [Value.oneCell']) rfl (by kernel_rfl) ?_))
   refine bodyPost_ret (results_cell_t9 rfl _ _ (w.heap.size + 1 + 1) 109 _ (0, 0) _ rfl (setRow_same HX.out.2.1) Tryz.underlying109 rfl (by kernel_rfl)) rfl ?_
   exact ⟨by rw [hf.out, h0.out, hpos.out, hnn.out]; rfl, below_setRow HX.out.2.2 (by omega) _⟩
 · have d1 : decide (N < 0) = false := decide_eq_false hneg
   have hpos : Hid ((⟨A, B, C, N⟩ : Pln).pos = ⟨A, B, C, N⟩) := by show _ = _; unfold Pln.pos; rw [if_neg hneg]
   clear hneg
   go_wp2_with (first | (with_reducible show wpList _ _ _ _ _ _; refine wpList_load_row9 rfl 109 _ rfl q rfl _ _ _ _ HRY.out.1 Tryz.underlying109 rfl (by kernel_rfl) ?_) | (with_reducible show wpList _ _ _ _ _ _; refine wpList_store_row rfl 109 _ _ rfl (w.heap.size + 1 + 1) rfl _ _ HRY.out.2.2 #[I A, I B, I C, I N] rfl (by simp [Value.oneCell']) rfl (by kernel_rfl) ?_))
   refine bodyPost_ret (results_cell_t9 rfl _ _ (w.heap.size + 1 + 1) 109 _ (0, 0) _ rfl (setRow_same HRY.out.2.2) Tryz.underlying109 rfl (by kernel_rfl)) rfl ?_
   exact ⟨by rw [hf.out, h0.out, hpos.out, hnn.out]; rfl, below_setRow hbYw.out (by omega) _⟩
end Go.Proofs.YtliolnfcgaflcaaGreat.Un
namespace Go.Proofs.YtliolnfcgaflcaaGreat.Un
open Go.RowKit
theorem thr_in {a b c : Pt} {za zb zc D : Int} (ha : InG a) (hb : InG b) (hc : InG c) (ma : InM za) (mb : InM zb) (mc : InM zc) (hD : 1 ≤ D ∧ D ≤ 200) : InP (thrR a b c za zb zc D) := by
 have hn := crs_bd ha hb hc
 unfold InG at ha hb hc
 unfold InM at ma mb mc
 have b1 := mul_bdF (a := zb - za) (b := c.y - a.y) (A := 2000000000) (B := 5) (by omega) (by omega)
 have b2 := mul_bdF (a := zc - za) (b := b.y - a.y) (A := 2000000000) (B := 5) (by omega) (by omega)
 have b3 := mul_bdF (a := b.x - a.x) (b := zc - za) (A := 5) (B := 2000000000) (by omega) (by omega)
 have b4 := mul_bdF (a := c.x - a.x) (b := zb - za) (A := 5) (B := 2000000000) (by omega) (by omega)
 have b5 := mul_bdF (a := crs a b c) (b := D) (A := 50) (B := 200) hn (by omega)
 have b6 := mul_bdF (a := crs a b c) (b := za) (A := 50) (B := 1000000000) hn (by omega)
 have b7 := mul_bdF (a := (zb - za) * (c.y - a.y) - (zc - za) * (b.y - a.y)) (b := a.x) (A := 20000000000) (B := 5) (by omega) (by omega)
 have b8 := mul_bdF (a := (b.x - a.x) * (zc - za) - (c.x - a.x) * (zb - za)) (b := a.y) (A := 20000000000) (B := 5) (by omega) (by omega)
 unfold thrR
 split
 · exact ⟨by decide, by decide, by decide, by decide⟩
 · unfold thr Pln.pos thr0
   simp only
   split
   · unfold InP
     simp only
     omega
   · unfold InP
     simp only
     omega
theorem near9_nr {p : Pln} {l : List Pt} {z : Nat → Int} {d : Frc} (hd : 1 ≤ d.d) : near9 p l z d = true ↔ ∀ q ∈ l, Nr z d.n d.d p q := by
 unfold near9 Nr
 rw [List.all_eq_true]
 refine forall_congr' fun q => forall_congr' fun _ => ?_
 rw [decide_eq_true_eq]
 obtain ⟨f, hf⟩ : ∃ f, p.off q (z q.at_) = f := ⟨_, rfl⟩
 rw [hf, Int.mul_comm d.d f]
 rcases Int.le_total 0 f with h | h
 · have h1 := Int.mul_nonneg h (show 0 ≤ d.d by omega)
   rw [show max f (-f) = f by omega]
   omega
 · have h1 := Int.mul_nonneg (show 0 ≤ -f by omega) (show 0 ≤ d.d by omega)
   rw [show max f (-f) = -f by omega]
   rw [Int.neg_mul] at h1 ⊢
   omega
def sg9 (s m : Nat) : Int := if s / 2 ^ m % 2 = 1 then 1 else -1
theorem sg9_all {a b c : Int} (ha : a = 1 ∨ a = -1) (hb : b = 1 ∨ b = -1) (hc : c = 1 ∨ c = -1) : ∃ s, s < 8 ∧ sg9 s 0 = a ∧ sg9 s 1 = b ∧ sg9 s 2 = c := by
 rcases ha with rfl | rfl <;> rcases hb with rfl | rfl <;> rcases hc with rfl | rfl
 · exact ⟨7, by decide, by decide, by decide, by decide⟩
 · exact ⟨3, by decide, by decide, by decide, by decide⟩
 · exact ⟨5, by decide, by decide, by decide, by decide⟩
 · exact ⟨1, by decide, by decide, by decide, by decide⟩
 · exact ⟨6, by decide, by decide, by decide, by decide⟩
 · exact ⟨2, by decide, by decide, by decide, by decide⟩
 · exact ⟨4, by decide, by decide, by decide, by decide⟩
 · exact ⟨0, by decide, by decide, by decide, by decide⟩
def thS (l : List Pt) (z : Nat → Int) (d : Frc) (i j k s : Nat) : Pln := thrR (pt9 l i) (pt9 l j) (pt9 l k) (atH z d.n d.d (pt9 l i) (sg9 s 0)) (atH z d.n d.d (pt9 l j) (sg9 s 1)) (atH z d.n d.d (pt9 l k) (sg9 s 2)) d.d
theorem tch_one {z : Nat → Int} {d : Frc} {l : List Pt} {p : Pln} (hd : 1 ≤ d.d) (hp : 0 < p.d) (hk : ∀ q ∈ l, Nr z d.n d.d p q) {i j k : Nat} (hn : crs (pt9 l i) (pt9 l j) (pt9 l k) ≠ 0) (ta : Tg z d.n d.d p (pt9 l i)) (tb : Tg z d.n d.d p (pt9 l j)) (tc : Tg z d.n d.d p (pt9 l k)) :
 ∃ s, s < 8 ∧ near9 (thS l z d i j k s) l z d = true := by
 obtain ⟨sa, sb, sc, h1, h2, h3, hh⟩ := corner_thr (show 0 < d.d by omega) hp hk hn ta tb tc
 obtain ⟨s, hs, rfl, rfl, rfl⟩ := sg9_all h1 h2 h3
 refine ⟨s, hs, (near9_nr hd).2 ?_⟩
 unfold thS thrR
 rw [if_neg hn]
 exact hh
theorem pt9_get {l : List Pt} {q : Pt} (h : q ∈ l) : ∃ i, i < l.length ∧ pt9 l i = q := by
 obtain ⟨i, hi, rfl⟩ := List.getElem_of_mem h
 refine ⟨i, hi, ?_⟩
 unfold pt9
 rw [List.getD_eq_getElem?_getD, List.getElem?_eq_getElem hi]
 rfl
theorem crs_swap (a b c : Pt) : crs b a c = -crs a b c := by unfold crs; grind
theorem crs_rot (a b c : Pt) : crs b c a = crs a b c := by unfold crs; grind
theorem tch_ex {z : Nat → Int} {d : Frc} {l : List Pt} (hl : Grd l) (hd : 1 ≤ d.d) (hf : Fs z d.n d.d l) : ∃ i j k s, k < j ∧ j < i ∧ i < l.length ∧ s < 8 ∧ crs (pt9 l i) (pt9 l j) (pt9 l k) ≠ 0 ∧ near9 (thS l z d i j k s) l z d = true := by
 obtain ⟨r0, m0, r1, m1, r2, m2, hr⟩ := hl.tri
 obtain ⟨p, hp, hk, a, ha, b, hb, c, hc, hn, ta, tb, tc⟩ := corner (show 0 < d.d by omega) hf m0 m1 m2 hr
 obtain ⟨i, hi, rfl⟩ := pt9_get ha
 obtain ⟨j, hj, rfl⟩ := pt9_get hb
 obtain ⟨k, hk3, rfl⟩ := pt9_get hc
 have one : ∀ i j k, i < l.length → k < j → j < i → crs (pt9 l i) (pt9 l j) (pt9 l k) ≠ 0 → Tg z d.n d.d p (pt9 l i) → Tg z d.n d.d p (pt9 l j) → Tg z d.n d.d p (pt9 l k) → ∃ i j k s, k < j ∧ j < i ∧ i < l.length ∧ s < 8 ∧ crs (pt9 l i) (pt9 l j) (pt9 l k) ≠ 0 ∧ near9 (thS l z d i j k s) l z d = true := fun i j k h1 h2 h3 h4 t1 t2 t3 => by
  obtain ⟨s, hs, hh⟩ := tch_one hd hp hk h4 t1 t2 t3
  exact ⟨i, j, k, s, h2, h3, h1, hs, h4, hh⟩
 have n1 : i ≠ j := by rintro rfl; apply hn; unfold crs; grind
 have n2 : j ≠ k := by rintro rfl; apply hn; unfold crs; grind
 have n3 : i ≠ k := by rintro rfl; apply hn; unfold crs; grind
 have e1 := crs_swap (pt9 l i) (pt9 l j) (pt9 l k)
 have e2 := crs_rot (pt9 l i) (pt9 l j) (pt9 l k)
 have e3 := crs_rot (pt9 l j) (pt9 l k) (pt9 l i)
 have e4 := crs_swap (pt9 l j) (pt9 l k) (pt9 l i)
 have e5 := crs_swap (pt9 l k) (pt9 l i) (pt9 l j)
 rcases Nat.lt_or_gt_of_ne n1 with h1 | h1
 · rcases Nat.lt_or_gt_of_ne n2 with h2 | h2
   · exact one k j i hk3 h1 h2 (by rw [e4, e2]; omega) tc tb ta
   · rcases Nat.lt_or_gt_of_ne n3 with h3 | h3
     · exact one j k i hj h3 h2 (by rw [e2]; exact hn) tb tc ta
     · exact one j i k hj h3 h1 (by rw [e1]; omega) tb ta tc
 · rcases Nat.lt_or_gt_of_ne n2 with h2 | h2
   · rcases Nat.lt_or_gt_of_ne n3 with h3 | h3
     · exact one k i j hk3 h1 h3 (by rw [e3, e2]; exact hn) tc ta tb
     · exact one i k j hi h2 h3 (by rw [e5, e3, e2]; omega) ta tc tb
   · exact one i j k hi h2 h1 hn ta tb tc
end Go.Proofs.YtliolnfcgaflcaaGreat.Un
