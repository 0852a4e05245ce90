/- Contract of Trace of package finish. -/
import Derived.Test.YtliolnfcgaflcaaGreatFae
import Derived.Test.YtliolnfcgaflcaaGreatDm
namespace Go.Proofs.YtliolnfcgaflcaaGreat.Un
open Go.RowKit
theorem alloc_rng9 (w : World) : ∃ w', (Instr.alloc 24 true (.tuple #[])).run Tryz.prog w = .ok (.pointer (some ⟨w.heap.size, 0, none⟩)) w' := ⟨w.alloc (.cells #[I 0, I 0] 24), by kernel_rfl⟩
def old9 (l : List Gag) (day : Int) (g : Int) : Bool := decide ((at0 l g.toNat).u < day)
structure TrIn (W : World) (l : List Gag) (day : Int) (A : Option Addr) (c B q1 q2 : Nat) : Prop where
 d : W.cell? ⟨q1, 0, none⟩ = some (I day)
 s : W.cell? ⟨q2, 0, none⟩ = some (.slice A l.length c)
 r : Rd W B 6 A l.length (rG l)
 b : B ≤ W.heap.size
 b1 : q1 < W.heap.size
 b2 : q2 < W.heap.size
theorem TrIn.below {W V : World} {l : List Gag} {day : Int} {A : Option Addr} {c B q1 q2 : Nat} (h : TrIn W l day A c B q1 q2) (hb : Below W.heap.size W V) : TrIn V l day A c B q1 q2 :=
 ⟨(hb.cell (p := ⟨q1, 0, none⟩) h.b1).trans h.d, (hb.cell (p := ⟨q2, 0, none⟩) h.b2).trans h.s, h.r.below (hb.mono h.b), Nat.le_trans h.b hb.size, Nat.lt_of_lt_of_le h.b1 hb.size, Nat.lt_of_lt_of_le h.b2 hb.size⟩
set_option maxRecDepth 100000 in
set_option maxHeartbeats 1000000 in
theorem tr1_any (l : List Gag) (day g : Int) (A : Option Addr) (c B q1 q2 : Nat) (w : World) (h : TrIn w l day A c B q1 q2) (hg : 0 ≤ g ∧ g < l.length) :
 Calls Tryz.prog 18 #[I g, .pointer (some ⟨q1, 0, none⟩), .pointer (some ⟨q2, 0, none⟩)] w fun e w' => e = .returned (.bool (old9 l day g)) ∧ Below w.heap.size w w' := by
 obtain ⟨k, rfl⟩ : ∃ k : Nat, g = k := ⟨g.toNat, by omega⟩
 have hk : k < l.length := by omega
 have hf : Hid (old9 l day k = decide ((at0 l k).u < day)) := rfl
 obtain ⟨b, o, rfl, _, _, _, _, _, _, e5⟩ := rd_gag h.r hk
 have z0 := ovr_cell h.d
 have z1 := ovr_cell h.s
 have z2 := ovr_cell e5
 clear h e5
 go_enter Tryz.func18, Tryz.ntmps18
 go_upto_region 1 with (fail)
 refine wp_region_seq 7 (fun _ => none) (by kernel_rfl) (by kernel_rfl) (by kernel_rfl) (by kernel_rfl) ?_
 simp only [List.take_succ_cons, List.take_zero, List.drop_succ_cons, List.drop_zero]
 repeat (first | (refine wpG_one rfl rfl rfl ?_; intro K hK; go_big_quiet_op; go_big_quiet_on) | (refine wpG_skip rfl ?_; simp only [Act.put, List.setIfInBounds_toArray, List.set_cons_zero, List.set_cons_succ]))
 refine wpG_nil (fun w5 hw5 hG => ?_)
 clear hG
 have HB5 := Lib.hid hw5.le
 clear hw5
 refine wpTail_cons ?_
 refine wp_assign _ (.bool (decide ((at0 l k).u < day))) rfl rfl ?_
 refine wpTail_nil ?_
 simp only [Act.put, List.setIfInBounds_toArray, List.set_cons_zero, List.set_cons_succ]
 go_wp2_with fail
 go_ret
 exact ⟨by rw [hf.out]; rfl, HB5.out⟩
set_option maxHeartbeats 1000000 in
theorem ix_old (l : List Gag) (day : Int) (A : Option Addr) (c B q1 q2 : Nat) (P : Option Addr) (m : Nat) (xs : List Int) (w : World) (h : TrIn w l day A c B q1 q2) (hp : ∀ g ∈ xs, 0 ≤ g ∧ g < (l.length : Int)) (hm : xs.length ≤ maxLen) (hx : Rd w w.heap.size 1 P xs.length (rI xs)) :
 Calls Tryz.prog 52 #[.slice P xs.length m, .func (Fn.func 18) #[] #[.pointer (some ⟨q1, 0, none⟩), .pointer (some ⟨q2, 0, none⟩)]] w fun e w' => e = .returned (.int .i64 (ixOf (old9 l day) xs)) ∧ Below w.heap.size w w' := by
 unfold maxLen at hm
 have HX : Hid (∀ u, Rd (ovr w u) w.heap.size 1 P xs.length (rI xs)) := fun u => hx.below (ovr_below w u)
 have HC : Hid (∀ u (k : Nat), k < xs.length → Calls Tryz.prog 18 #[I (at0 xs k), .pointer (some ⟨q1, 0, none⟩), .pointer (some ⟨q2, 0, none⟩)] (ovr w u) fun e w' => e = .returned (.bool (old9 l day (at0 xs k))) ∧ Below (ovr w u).heap.size (ovr w u) w') := fun u k hk =>
  tr1_any l day _ A c B q1 q2 _ (h.below (ovr_below w u)) (hp _ (by rw [at0_get hk]; exact List.getElem_mem hk))
 obtain ⟨u0, hu0⟩ := ovr_self w
 have H0 := Lib.hid hu0
 clear hx hu0 h hp
 go_enter Tryz.func52, Tryz.ntmps52
 go_wp2
 go_loopw [8] (fun i wr => ∃ k : Nat, k ≤ xs.length ∧ i = .int .i64 k ∧ (∀ j, j < k → old9 l day (at0 xs j) = false) ∧ ∃ u, wr = ovr w u) (fun i _ => xs.length - (intOf i).toNat)
 case atStart => exact ⟨0, by omega, rfl, fun j hj => absurd hj (by omega), u0, H0.out⟩
 case round =>
  obtain ⟨k, hk, rfl, hb, u, rfl⟩ := hrel
  have Hb := Lib.hid hb
  clear hb
  by_cases hlt : k < xs.length
  · obtain ⟨b', o, rfl, _, hcc⟩ := HX.out u (by omega)
    have e0 := hcc k hlt 0 (by omega)
    rw [Nat.mul_one, Nat.add_zero] at e0
    have e1 : (ovr w u).cell? ⟨b', o + k, none⟩ = some (I (at0 xs k)) := e0
    have ca := HC.out u k hlt
    clear hcc e0
    rcases hp : old9 l day (at0 xs k) with _ | _
    · rw [hp] at ca
      have Ca := Lib.hid ca
      clear ca
      go_wp2_with fail
      refine Ca.out.mono ?_
      rintro e w1 ⟨rfl, hb1⟩
      obtain ⟨u1, rfl⟩ := ovr_next hb1
      clear hb1
      go_wp2_with fail
      go_roundw
      case rel => exact ⟨k + 1, by omega, by go_num, succ_case Hb.out hp, u1, rfl⟩
      case measure => simp [intOf]; omega
    · rw [hp] at ca
      have Ca := Lib.hid ca
      have hfin := Lib.hid (ixOf_at hlt hp Hb.out)
      clear ca
      go_wp2_with fail
      refine Ca.out.mono ?_
      rintro e w1 ⟨rfl, hb1⟩
      obtain ⟨u1, rfl⟩ := ovr_next hb1
      clear hb1
      go_wp2_with fail
      go_ret
      exact ⟨ret_int hfin.out.symm, ovr_below _ _⟩
  · have hfin : Hid (ixOf (old9 l day) xs = -1) := ixOf_none0 fun j hj => Hb.out j (by omega)
    go_wp2
    go_ret
    exact ⟨ret_int hfin.out.symm, ovr_below _ _⟩
set_option maxHeartbeats 1000000 in
theorem con_old (l : List Gag) (day : Int) (A : Option Addr) (c B q1 q2 : Nat) (P : Option Addr) (m : Nat) (xs : List Int) (w : World) (h : TrIn w l day A c B q1 q2) (hp : ∀ g ∈ xs, 0 ≤ g ∧ g < (l.length : Int)) (hm : xs.length ≤ maxLen) (hx : Rd w w.heap.size 1 P xs.length (rI xs)) :
 Calls Tryz.prog 17 #[.slice P xs.length m, .func (Fn.func 18) #[] #[.pointer (some ⟨q1, 0, none⟩), .pointer (some ⟨q2, 0, none⟩)]] w fun e w' => e = .returned (.bool (xs.any (old9 l day))) ∧ Below w.heap.size w w' := by
 have hfin := ixOf_any (p := old9 l day) (xs := xs)
 have cx := Lib.hid (ix_old l day A c B q1 q2 P m xs w h hp hm hx)
 clear hx hm h hp
 go_enter Tryz.func17, Tryz.ntmps17
 go_wp2_with fail
 refine cx.out.mono ?_
 rintro e w' ⟨rfl, hb⟩
 have HB := Lib.hid hb
 clear hb
 go_wp2_with fail
 go_ret
 exact ⟨rfl, HB.out⟩
end Go.Proofs.YtliolnfcgaflcaaGreat.Un
namespace Go.Proofs.YtliolnfcgaflcaaGreat.Un
open Go.RowKit
def pth (l : List Gag) : Nat → Int → List Int
 | 0, _ => [] | f + 1, g => if g < 0 then [] else g :: pth l f (at0 l g.toNat).by_
def path9 (l : List Gag) (g : Int) : List Int := pth l (g.toNat + 1) g
theorem gag_by {l : List Gag} (h : okGag l = true) {k : Nat} (hk : k < l.length) : -1 ≤ (at0 l k).by_ ∧ (at0 l k).by_ < (k : Int) := by
 unfold okGag at h
 have h2 := gagK_iff.1 (Bool.and_eq_true_iff.1 h).2 k hk
 unfold gagB at h2
 simp only [Bool.and_eq_true, decide_eq_true_eq] at h2
 omega
theorem okGag_len {l : List Gag} (h : okGag l = true) : l.length ≤ 30 := by
 unfold okGag at h
 have := (Bool.and_eq_true_iff.1 h).1
 simpa using this
theorem pth_in {l : List Gag} (h : okGag l = true) : ∀ (f : Nat) (g : Int), g < (l.length : Int) → ∀ x ∈ pth l f g, 0 ≤ x ∧ x < (l.length : Int)
 | 0, _, _, x, hx => by cases hx
 | f + 1, g, hg, x, hx => by
   unfold pth at hx
   split at hx
   · cases hx
   · rename_i h0
     rcases List.mem_cons.1 hx with rfl | hx
     · omega
     · have := gag_by h (k := g.toNat) (by omega)
       exact pth_in h f _ (by omega) x hx
theorem pth_len (l : List Gag) : ∀ (f : Nat) (g : Int), (pth l f g).length ≤ f
 | 0, _ => Nat.le_refl _
 | f + 1, g => by
   unfold pth
   split
   · simp
   · have := pth_len l f (at0 l g.toNat).by_
     simp
     omega
def stp9 (g : Gag) (x : Rng) : Rng × Int := if (tmF x g.f 1000000).2 = 0 then suF [(tmF x g.f 1000000).1, g.o] else tmF x g.f 1000000
def trKF (l : List Gag) (p : List Int) (x : Rng) : Nat → Rng × Int
 | 0 => (x, 0) | k + 1 => if (trKF l p x k).2 = 0 then stp9 (at0 l (at0 p k).toNat) (trKF l p x k).1 else trKF l p x k
def trF (l : List Gag) (g day : Int) (x : Rng) : Rng × List Int × Int :=
 if okGag l && spn9 x (-1000000000000000) 1000000000000000 then
    (if g < 0 ∨ (l.length : Int) ≤ g then (⟨0, 0⟩, [], 7) else
     if (path9 l g).any (old9 l day) then (⟨0, 0⟩, [], 90) else
     if (trKF l (path9 l g) x (path9 l g).length).2 = 0 then ((trKF l (path9 l g) x (path9 l g).length).1, path9 l g, 0) else (⟨0, 0⟩, [], (trKF l (path9 l g) x (path9 l g).length).2))
 else (⟨0, 0⟩, [], 2)
def RetTr (w : World) (q : Rng × List Int × Int) (e : Ending) (w' : World) : Prop := ∃ A c, e = .returned (.tuple #[q.1.val, .slice A q.2.1.length c, I q.2.2]) ∧ q.2.1.length ≤ c ∧ c ≤ maxLen ∧ Rd w' w'.heap.size 1 A q.2.1.length (rI q.2.1) ∧ Below w.heap.size w w'
theorem RetTr.nil {w w' : World} {x : Rng} {e : Int} {E : Ending} (h : E = .returned (.tuple #[x.val, .slice none 0 0, I e])) (hb : Below w.heap.size w w') : RetTr w (x, [], e) E w' :=
 ⟨Option.none, 0, h, Nat.le_refl _, by unfold maxLen; omega, Rd.nil, hb⟩
theorem results_cell_tt9 {P : Program} {fn : Func} {p t1 t2 : Tmp} {ty : TypeId} (h : fn.results = #[.cell p ty, .tmp t1, .tmp t2]) (tmps : Array Value) (w : World) (g : Nat) (t : TypeId) (cs : Array Value) (fr : Nat × Nat) (d : TypeDesc)
 (hp : tmps.getD p undef = .pointer (some ⟨g, 0, none⟩)) (hg : w.heap[g]? = some (.cells cs t fr))
 (hu : P.underlying ty = some d) (hd : (match d with | .struct _ | .array _ _ => true | _ => false) = true) (hi : (P.info? ty).map (·.size) = some cs.size) :
 (results fn tmps).run P w = .ok (.tuple #[.agg cs, tmps.getD t1 undef, tmps.getD t2 undef]) w := by
 have hp' : tmps[p]?.getD undef = .pointer (some ⟨g, 0, none⟩) := by simpa using hp
 simp [results, h, hp', asAddr, run_loadVar_row w g t ty cs fr d hg hu hd hi]
theorem trK_none {l : List Gag} {p : List Int} {x : Rng} {k : Nat} (h : (trKF l p x k).2 ≠ 0) : ∀ m, k ≤ m → trKF l p x m = trKF l p x k
 | 0, hm => by obtain rfl : k = 0 := by omega
               rfl
 | m + 1, hm => by
   rcases Nat.lt_or_ge m k with h1 | h1
   · obtain rfl : k = m + 1 := by omega
     rfl
   · have ih := trK_none h m h1
     show (if (trKF l p x m).2 = 0 then _ else trKF l p x m) = _
     rw [ih, if_neg h]
theorem alloc_next {w w1 : World} {o : Obj} (h : Below (w.alloc o).heap.size (w.alloc o) w1) : Below w.heap.size w w1 := by
 have h1 : Below w.heap.size w (w.alloc o) := (Below.refl _ _).alloc (Nat.le_refl _) _
 exact h1.trans (h.mono h1.size)
def RdY (w : World) (e : TypeId) (sz : Nat) (A : Option Addr) (n : Nat) (g : Nat → Nat → Value) : Prop := Rd w w.heap.size sz A n g ∧ (0 < n → ∃ b o cs fr, A = some ⟨b, o, none⟩ ∧ w.heap[b]? = some (.cells cs e fr))
theorem RdY.nil {w : World} {e : TypeId} {sz : Nat} {A : Option Addr} {g : Nat → Nat → Value} : RdY w e sz A 0 g := ⟨Rd.nil, fun h => absurd h (by omega)⟩
def RetTy (w : World) (q : Rng × List Int × Int) (e : Ending) (w' : World) : Prop := ∃ A c, e = .returned (.tuple #[q.1.val, .slice A q.2.1.length c, I q.2.2]) ∧ q.2.1.length ≤ c ∧ c ≤ maxLen ∧ RdY w' 3 1 A q.2.1.length (rI q.2.1) ∧ Below w.heap.size w w'
theorem RetTy.nil {w w' : World} {x : Rng} {e : Int} {E : Ending} (h : E = .returned (.tuple #[x.val, .slice none 0 0, I e])) (hb : Below w.heap.size w w') : RetTy w (x, [], e) E w' :=
 ⟨Option.none, 0, h, Nat.le_refl _, by unfold maxLen; omega, RdY.nil, hb⟩
theorem soc_at {e : TypeId} {sz B n : Nat} {g : Nat → Nat → Value} {v : Value} {w : World} (h : SoC e sz B n (flat sz g n) v w) :
 ∃ A c q, v = .slice A n c ∧ n ≤ c ∧ c ≤ maxLen ∧ (0 < n → B ≤ q ∧ q < w.heap.size) ∧ ∀ V : World, V.heap[q]? = w.heap[q]? → RdY V e sz A n g := by
 rcases h with ⟨rfl, _, b, rfl⟩ | ⟨hl, h0 | ⟨b, m, cs, hv, hb, hr, rr⟩⟩
 · exact ⟨_, _, 0, rfl, Nat.le_refl _, by unfold maxLen; omega, fun h => absurd h (by omega), fun _ _ => RdY.nil⟩
 · obtain ⟨rfl, rfl⟩ := h0
   exact ⟨_, _, 0, rfl, Nat.le_refl _, by unfold maxLen; omega, fun h => absurd h (by omega), fun _ _ => RdY.nil⟩
 · obtain ⟨A, c, h1, h2, h3, _⟩ := Rd.of_own_max ⟨hl, .inr ⟨b, m, cs, hv, hb, hr, rr⟩⟩
   refine ⟨A, c, b, h1, h2, h3, fun _ => ⟨hb, (Array.getElem?_eq_some_iff.1 hr).1⟩, fun V hV => ?_⟩
   obtain ⟨A', c', k1, _, _, k4⟩ := Rd.of_own_max ⟨hl, .inr ⟨b, m, cs, hv, hb, hV.trans hr, rr⟩⟩
   rw [h1] at hv
   injection hv with e2 _ _
   rw [h1] at k1
   injection k1 with e1 _ _
   refine ⟨by rw [e1]; exact k4, fun _ => ⟨b, 0, cs, _, e2, hV.trans hr⟩⟩
theorem int9_info : (Tryz.prog.info? 3).map (fun i => (i.zero, i.size, i.bytes)) = some (some (I 0), 1, 8) := by kernel_rfl
theorem app_one (D : List Int) (q : Int) : (D.map fun x => I x) ++ [I q] = (D ++ [q]).map fun x => I x := by simp
set_option maxRecDepth 100000 in
set_option maxHeartbeats 8000000 in
theorem traceY_any (l : List Gag) (g day : Int) (x : Rng) (A : Option Addr) (c : Nat) (w : World) (B : Nat) (hB : B ≤ w.heap.size) (hx : Rd w B 6 A l.length (rG l)) :
 Calls Tryz.prog 8 #[.slice A l.length c, I g, I day, x.val] w (RetTy w (trF l g day x)) := by
 have HRD : Hid (∀ V, Below w.heap.size w V → Rd V B 6 A l.length (rG l) ∧ B ≤ V.heap.size) := fun V hV => ⟨hx.below (hV.mono hB), Nat.le_trans hB hV.size⟩
 have CG : Hid (∀ V, Below w.heap.size w V → Calls Tryz.prog 15 #[.slice A l.length c] V fun e w' => e = .returned (I (er9 (okGag l))) ∧ Below V.heap.size V w') := fun V hV => checkGauges_any A c l V B (HRD.out V hV).2 (HRD.out V hV).1
 have hf : Hid (trF l g day x = if okGag l && spn9 x (-1000000000000000) 1000000000000000 then
  (if g < 0 ∨ (l.length : Int) ≤ g then (⟨0, 0⟩, [], 7) else
   if (path9 l g).any (old9 l day) then (⟨0, 0⟩, [], 90) else
   if (trKF l (path9 l g) x (path9 l g).length).2 = 0 then ((trKF l (path9 l g) x (path9 l g).length).1, path9 l g, 0) else (⟨0, 0⟩, [], (trKF l (path9 l g) x (path9 l g).length).2))
 else (⟨0, 0⟩, [], 2)) := rfl
 clear hx hB
 obtain ⟨W, hW⟩ : ∃ W, W = ((((w.alloc (.cells #[.slice A l.length c] 22)).alloc (.cells #[I day] 3)).alloc (.cells #[I x.lo, I x.hi] 24)).alloc (.cells #[I 0, I 0] 24)) := ⟨_, rfl⟩
 have rowW0 : W.heap[w.heap.size]? = some (.cells #[.slice A l.length c] 22 (0, 0)) := by rw [hW]; exact heap_before (heap_before (heap_before (heap_last _ _ _ rfl)))
 have yW00 := ovr_cell (W := W) (b := w.heap.size) (o := 0) (v := .slice A l.length c) (by rw [cell_of_row _ _ _ _ _ _ rowW0]; rfl)
 have RrowW0 := Lib.hid (ovr_row rowW0)
 clear rowW0
 have rowW1 : W.heap[w.heap.size + 1]? = some (.cells #[I day] 3 (0, 0)) := by rw [hW]; exact heap_before (heap_before (heap_last _ _ _ (by simp)))
 have yW10 := ovr_cell (W := W) (b := w.heap.size + 1) (o := 0) (v := I day) (by rw [cell_of_row _ _ _ _ _ _ rowW1]; rfl)
 have RrowW1 := Lib.hid (ovr_row rowW1)
 clear rowW1
 have rowW2 : W.heap[w.heap.size + 1 + 1]? = some (.cells #[I x.lo, I x.hi] 24 (0, 0)) := by rw [hW]; exact heap_before (heap_last _ _ _ (by simp))
 have yW20 := ovr_cell (W := W) (b := w.heap.size + 1 + 1) (o := 0) (v := I x.lo) (by rw [cell_of_row _ _ _ _ _ _ rowW2]; rfl)
 have yW21 := ovr_cell (W := W) (b := w.heap.size + 1 + 1) (o := 1) (v := I x.hi) (by rw [cell_of_row _ _ _ _ _ _ rowW2]; rfl)
 have RrowW2 := Lib.hid (ovr_row rowW2)
 clear rowW2
 have rowW3 : W.heap[w.heap.size + 1 + 1 + 1]? = some (.cells #[I 0, I 0] 24 (0, 0)) := by rw [hW]; exact heap_last _ _ _ (by simp)
 have yW30 := ovr_cell (W := W) (b := w.heap.size + 1 + 1 + 1) (o := 0) (v := I 0) (by rw [cell_of_row _ _ _ _ _ _ rowW3]; rfl)
 have yW31 := ovr_cell (W := W) (b := w.heap.size + 1 + 1 + 1) (o := 1) (v := I 0) (by rw [cell_of_row _ _ _ _ _ _ rowW3]; rfl)
 have RrowW3 := Lib.hid (ovr_row rowW3)
 clear rowW3
 have HUW : Hid (∀ u, Below w.heap.size w (ovr W u)) := U4 hW
 have HW := Lib.hid hW
 clear hW
 go_enter Tryz.func8, Tryz.ntmps8
 go_upto_region 1 with (fail)
 rw [← HW.out]
 obtain ⟨u0, hu0⟩ := ovr_self W
 rw [hu0]
 clear hu0
 go_upto_region 2 with fail
 obtain ⟨X, hX⟩ : ∃ X, X = ((ovr W u0).alloc (.cells #[I (-1000000000000000), I 1000000000000000] 67)) := ⟨_, rfl⟩
 have reX : ∀ v, ∃ x, ovr X v = ovr W x := fun v => ovr_re1 hX
 replace yW00 := tr_cell reX yW00
 replace RrowW0 := Lib.hid (tr_row reX RrowW0.out)
 replace yW10 := tr_cell reX yW10
 replace RrowW1 := Lib.hid (tr_row reX RrowW1.out)
 replace yW20 := tr_cell reX yW20
 replace yW21 := tr_cell reX yW21
 replace RrowW2 := Lib.hid (tr_row reX RrowW2.out)
 replace yW30 := tr_cell reX yW30
 replace yW31 := tr_cell reX yW31
 replace RrowW3 := Lib.hid (tr_row reX RrowW3.out)
 have rowX0 : X.heap[(ovr W u0).heap.size]? = some (.cells #[I (-1000000000000000), I 1000000000000000] 67 (0, 0)) := by rw [hX]; exact heap_last _ _ _ rfl
 have yX00 := ovr_cell (W := X) (b := (ovr W u0).heap.size) (o := 0) (v := I (-1000000000000000)) (by rw [cell_of_row _ _ _ _ _ _ rowX0]; rfl)
 have yX01 := ovr_cell (W := X) (b := (ovr W u0).heap.size) (o := 1) (v := I 1000000000000000) (by rw [cell_of_row _ _ _ _ _ _ rowX0]; rfl)
 have RrowX0 := Lib.hid (ovr_row rowX0)
 clear rowX0
 have HBX : Hid (∀ u, Below W.heap.size W (ovr X u)) := fun u => by obtain ⟨x, hx⟩ := reX u; rw [hx]; exact ovr_below _ _
 have HUX : Hid (∀ u, Below w.heap.size w (ovr X u)) := fun u => by obtain ⟨x, hx⟩ := reX u; rw [hx]; exact HUW.out x
 clear reX
 have HX := Lib.hid hX
 clear hX
 have HXS : Hid (w.heap.size + 4 ≤ X.heap.size) := by
  show _ ≤ _
  obtain ⟨v, hv⟩ := ovr_self X
  have h := (Array.getElem?_eq_some_iff.1 (RrowW3.out v)).1
  rw [← hv] at h
  omega
 rw [← HX.out]
 obtain ⟨u1, hu1⟩ := ovr_self X
 rw [hu1]
 clear hu1
 rcases ho : okGag l with _ | _
 · rw [ho, er9_f] at CG
   rw [ho] at hf
   clear ho
   go_wp2_with fail
   refine (CG.out _ (HUX.out _)).mono ?_
   rintro e w1 ⟨rfl, hb1⟩
   obtain ⟨u2, rfl⟩ := ovr_next hb1
   clear hb1
   go_wp2_with (with_reducible show wpList _ _ _ _ _ _; refine wpList_store_row rfl 24 _ _ rfl (w.heap.size + 1 + 1 + 1) rfl _ _ (RrowW3.out _) #[I 0, I 0] rfl (one2 rfl rfl) rfl (by kernel_rfl) ?_)
   refine bodyPost_ret (results_cell_tt9 rfl _ _ (w.heap.size + 1 + 1 + 1) 24 _ (0, 0) _ rfl (setRow_same (RrowW3.out _)) Tryz.underlying24 rfl (by kernel_rfl)) rfl ?_
   rw [show trF l g day x = (⟨0, 0⟩, [], 2) from hf.out]
   exact RetTy.nil rfl (below_setRow (HUX.out _) (by omega) _)
 rw [ho, er9_t] at CG
 rw [ho, Bool.true_and] at hf
 have HO := Lib.hid ho
 clear ho
 go_wp2_with fail
 refine (CG.out _ (HUX.out _)).mono ?_
 rintro e w1 ⟨rfl, hb1⟩
 obtain ⟨u2, rfl⟩ := ovr_next hb1
 clear hb1
 go_wp2_with fail
 refine (hasRow (r := x) (heap_last _ _ _ rfl) (-1000000000000000) 1000000000000000).mono ?_
 rintro e w3 ⟨rfl, hb3⟩
 obtain ⟨u3, rfl⟩ := ovr_next (alloc_next hb3)
 clear hb3
 rcases hs : spn9 x (-1000000000000000) 1000000000000000 with _ | _
 · rw [hs] at hf
   go_wp2_with (with_reducible show wpList _ _ _ _ _ _; refine wpList_store_row rfl 24 _ _ rfl (w.heap.size + 1 + 1 + 1) rfl _ _ (RrowW3.out _) #[I 0, I 0] rfl (one2 rfl rfl) rfl (by kernel_rfl) ?_)
   refine bodyPost_ret (results_cell_tt9 rfl _ _ (w.heap.size + 1 + 1 + 1) 24 _ (0, 0) _ rfl (setRow_same (RrowW3.out _)) Tryz.underlying24 rfl (by kernel_rfl)) rfl ?_
   rw [show trF l g day x = (⟨0, 0⟩, [], 2) from hf.out]
   exact RetTy.nil rfl (below_setRow (HUX.out _) (by omega) _)
 rw [hs, if_pos rfl] at hf
 clear hs
 by_cases h0 : g < 0
 · have d0 : decide (g < 0) = true := decide_eq_true h0
   rw [if_pos (.inl h0)] at hf
   clear h0
   go_wp2_with (with_reducible show wpList _ _ _ _ _ _; refine wpList_store_row rfl 24 _ _ rfl (w.heap.size + 1 + 1 + 1) rfl _ _ (RrowW3.out _) #[I 0, I 0] rfl (one2 rfl rfl) rfl (by kernel_rfl) ?_)
   refine bodyPost_ret (results_cell_tt9 rfl _ _ (w.heap.size + 1 + 1 + 1) 24 _ (0, 0) _ rfl (setRow_same (RrowW3.out _)) Tryz.underlying24 rfl (by kernel_rfl)) rfl ?_
   rw [hf.out]
   exact RetTy.nil rfl (below_setRow (HUX.out _) (by omega) _)
 have d0 : decide (g < 0) = false := decide_eq_false h0
 by_cases h1 : (l.length : Int) ≤ g
 · have d1 : decide ((l.length : Int) ≤ g) = true := decide_eq_true h1
   rw [if_pos (.inr h1)] at hf
   clear h0 h1
   go_wp2_with (with_reducible show wpList _ _ _ _ _ _; refine wpList_store_row rfl 24 _ _ rfl (w.heap.size + 1 + 1 + 1) rfl _ _ (RrowW3.out _) #[I 0, I 0] rfl (one2 rfl rfl) rfl (by kernel_rfl) ?_)
   refine bodyPost_ret (results_cell_tt9 rfl _ _ (w.heap.size + 1 + 1 + 1) 24 _ (0, 0) _ rfl (setRow_same (RrowW3.out _)) Tryz.underlying24 rfl (by kernel_rfl)) rfl ?_
   rw [hf.out]
   exact RetTy.nil rfl (below_setRow (HUX.out _) (by omega) _)
 have d1 : decide ((l.length : Int) ≤ g) = false := decide_eq_false h1
 rw [if_neg (by omega)] at hf
 have HG : Hid (0 ≤ g ∧ g < (l.length : Int)) := by show _ ∧ _; omega
 clear h0 h1
 obtain ⟨i0, hi0, iz0, iz1, iz2⟩ := info_parts int9_info
 go_upto_block 1 with fail
 clear d0 d1
 go_wp2_with fail
 go_loopw [1, 9] (fun gv pv wr => ∃ (D : List Int) (f : Nat) (q : Int) (u : World), gv = I q ∧ path9 l g = D ++ pth l f q ∧ q + 1 ≤ (f : Int) ∧ -1 ≤ q ∧ q < (l.length : Int) ∧ wr = ovr X u ∧ SoC 3 1 X.heap.size D.length (D.map fun x => I x) pv wr) (fun gv _ _ => (intOf gv + 1).toNat)
 case atStart => exact ⟨[], g.toNat + 1, g, u3, rfl, rfl, by have := HG.out; omega, by have := HG.out; omega, HG.out.2, rfl, .inr ⟨rfl, .inl ⟨rfl, rfl⟩⟩⟩
 case round =>
  obtain ⟨D, f, q, u, rfl, hp, hf1, hq1, hq2, rfl, hso⟩ := hrel
  have HSO := Lib.hid hso
  have HP := Lib.hid hp
  have HQ : Hid (q + 1 ≤ (f : Int) ∧ -1 ≤ q ∧ q < (l.length : Int)) := ⟨hf1, hq1, hq2⟩
  have HDL : Hid (D.length ≤ 1000) := by
   show _ ≤ _
   have h1 := pth_len l (g.toNat + 1) g
   have h2 : (path9 l g).length = D.length + (pth l f q).length := by rw [hp, List.length_append]
   unfold path9 at h2
   have := HG.out
   have := okGag_len HO.out
   omega
  clear hso hp hf1 hq1 hq2
  by_cases hq : 0 ≤ q
  case neg =>
   have d2 : decide (0 ≤ q) = false := decide_eq_false hq
   have HPD : Hid (path9 l g = D) := by
        show _ = _
        rw [HP.out]
        have h1 : ∀ f, pth l f q = [] := fun f => by
         cases f with
         | zero => rfl
         | succ f => unfold pth; rw [if_pos (by omega)]
        rw [h1, List.append_nil]
   have HIN : Hid (∀ x ∈ D, 0 ≤ x ∧ x < (l.length : Int)) := by
        show ∀ x ∈ D, _
        rw [← HPD.out]
        exact pth_in HO.out _ _ HG.out.2
   obtain ⟨PA, pc, pq, rfl, hpc, hpm, hpb, hpv⟩ := soc_at (e := 3) (sz := 1) (B := X.heap.size) (n := D.length) (g := rI D) (by rw [← ints_flat]; exact HSO.out)
   have hprd := (hpv (ovr X u) rfl).1
   have HPC : Hid (D.length ≤ pc ∧ pc ≤ maxLen) := ⟨hpc, hpm⟩
   rw [HPD.out] at hf
   clear hq HP HQ HPD HSO hpc hpm
   have HTI : Hid (TrIn (ovr X u) l day A c B (w.heap.size + 1) w.heap.size) := ⟨yW10 u, yW00 u, (HRD.out _ (HUX.out u)).1, (HRD.out _ (HUX.out u)).2, (Array.getElem?_eq_some_iff.1 (RrowW1.out u)).1, (Array.getElem?_eq_some_iff.1 (RrowW0.out u)).1⟩
   have CO := Lib.hid (con_old l day A c B (w.heap.size + 1) w.heap.size PA pc D (ovr X u) HTI.out HIN.out (by have := HDL.out; unfold maxLen; omega) hprd)
   have HPB : Hid (0 < D.length → X.heap.size ≤ pq ∧ pq < (ovr X u).heap.size) := hpb
   have HPR : Hid (∀ V, V.heap[pq]? = (ovr X u).heap[pq]? → RdY V 3 1 PA D.length (rI D)) := hpv
   clear hprd HTI hpb hpv
   go_wp2_with fail
   refine CO.out.mono ?_
   rintro e w4 ⟨rfl, hb4⟩
   have HPR4 : Hid (∀ V, (∀ k, X.heap.size ≤ k → k < w4.heap.size → V.heap[k]? = w4.heap[k]?) → RdY V 3 1 PA D.length (rI D)) := fun V hV => by
        rcases Nat.eq_zero_or_pos D.length with h0 | h0
        · rw [h0]; exact RdY.nil
        · obtain ⟨k1, k2⟩ := HPB.out h0
          exact HPR.out V ((hV pq k1 (Nat.lt_of_lt_of_le k2 hb4.size)).trans (hb4.block pq k2))
   obtain ⟨u4, rfl⟩ := ovr_next hb4
   clear hb4 HPR CO HPB
   rcases hany : D.any (old9 l day) with _ | _
   case true =>
        rw [hany, if_pos rfl] at hf
        clear hany
        go_wp2_with (with_reducible show wpList _ _ _ _ _ _; refine wpList_store_row rfl 24 _ _ rfl (w.heap.size + 1 + 1 + 1) rfl _ _ (RrowW3.out _) #[I 0, I 0] rfl (one2 rfl rfl) rfl (by kernel_rfl) ?_)
        refine bodyPost_ret (results_cell_tt9 rfl _ _ (w.heap.size + 1 + 1 + 1) 24 _ (0, 0) _ rfl (setRow_same (RrowW3.out _)) Tryz.underlying24 rfl (by kernel_rfl)) rfl ?_
        rw [hf.out]
        exact RetTy.nil rfl (below_setRow (HUX.out _) (by omega) _)
   rw [hany, if_neg (by decide)] at hf
   clear hany
   go_upto_region 12 with fail
   have hbZ := ovr_below X u4
   obtain ⟨Z, hZ⟩ : ∃ Z, Z = ovr X u4 := ⟨_, rfl⟩
   rw [← hZ] at hbZ
   rw [← hZ]
   have hZ' := Lib.hid hZ
   clear hZ
   have hbZ' := Lib.hid hbZ
   have reZ : ∀ v, ∃ x, ovr Z v = ovr X x := fun v => ovr_reB hbZ v
   replace yW00 := tr_cell reZ yW00
   replace RrowW0 := Lib.hid (tr_row reZ RrowW0.out)
   replace yW10 := tr_cell reZ yW10
   replace RrowW1 := Lib.hid (tr_row reZ RrowW1.out)
   replace yW20 := tr_cell reZ yW20
   replace yW21 := tr_cell reZ yW21
   replace RrowW2 := Lib.hid (tr_row reZ RrowW2.out)
   replace yW30 := tr_cell reZ yW30
   replace yW31 := tr_cell reZ yW31
   replace RrowW3 := Lib.hid (tr_row reZ RrowW3.out)
   replace yX00 := tr_cell reZ yX00
   replace yX01 := tr_cell reZ yX01
   replace RrowX0 := Lib.hid (tr_row reZ RrowX0.out)
   have HUZ : Hid (∀ u, Below w.heap.size w (ovr Z u)) := fun u => by obtain ⟨x, hx⟩ := reZ u; rw [hx]; exact HUX.out x
   clear reZ hbZ
   obtain ⟨n, hn⟩ : ∃ n, D.length = n := ⟨_, rfl⟩
   rw [hn] at HPC HPR4 hf HDL
   rw [hn]
   have HN := Lib.hid hn
   clear hn
   rw [← hZ'.out] at HPR4
   have HWZ : Hid (∀ V, Below Z.heap.size Z V → Below w.heap.size w V) := fun V h => (below_self HUZ.out).trans (h.mono (below_self HUZ.out).size)
   refine name_w fun Y0 hY0 => ?_
   have HY0 : Hid (Below Z.heap.size Z Y0 ∧ Y0.heap[Z.heap.size]? = some (.cells #[I x.lo, I x.hi] 24 (0, 0))) := by
        show _ ∧ _
        rw [hY0]
        exact ⟨(Below.refl _ _).alloc (Nat.le_refl _) _, heap_last _ _ _ rfl⟩
   clear hY0
   go_wp2_with fail
   go_loopw [56, 9] (fun iv pv wr => ∃ (k : Nat) (y : Rng), k ≤ n ∧ iv = .int .i64 k ∧ pv = .slice PA n pc ∧ trKF l D x k = (y, 0) ∧ Below Z.heap.size Z wr ∧ wr.heap[Z.heap.size]? = some (.cells #[I y.lo, I y.hi] 24 (0, 0))) (fun iv _ _ => n - (intOf iv).toNat)
   case atStart => exact ⟨0, x, by omega, rfl, rfl, rfl, HY0.out⟩
   case round =>
        obtain ⟨k, y, hk, rfl, rfl, htk, hbz, hrow⟩ := hrel
        rename World => Y
        have HTK := Lib.hid htk
        have HBZ := Lib.hid hbz
        have HPK := Lib.hid (HPR4.out Y fun k _ h => hbz.block k h)
        clear htk HY0
        by_cases hkn : k < n
        case neg =>
         obtain rfl : k = n := by omega
         rw [HTK.out, if_pos rfl] at hf
         have reY : ∀ v, ∃ x, ovr Y v = ovr Z x := fun v => ovr_reB hbz v
         replace yW00 := tr_cell reY yW00
         replace RrowW0 := Lib.hid (tr_row reY RrowW0.out)
         replace yW10 := tr_cell reY yW10
         replace RrowW1 := Lib.hid (tr_row reY RrowW1.out)
         replace yW20 := tr_cell reY yW20
         replace yW21 := tr_cell reY yW21
         replace RrowW2 := Lib.hid (tr_row reY RrowW2.out)
         replace yW30 := tr_cell reY yW30
         replace yW31 := tr_cell reY yW31
         replace RrowW3 := Lib.hid (tr_row reY RrowW3.out)
         replace yX00 := tr_cell reY yX00
         replace yX01 := tr_cell reY yX01
         replace RrowX0 := Lib.hid (tr_row reY RrowX0.out)
         have yY00 := ovr_cell (W := Y) (b := Z.heap.size) (o := 0) (v := I y.lo) (by rw [cell_of_row _ _ _ _ _ _ hrow]; rfl)
         have yY01 := ovr_cell (W := Y) (b := Z.heap.size) (o := 1) (v := I y.hi) (by rw [cell_of_row _ _ _ _ _ _ hrow]; rfl)
         have RrowY0 := Lib.hid (ovr_row hrow)
         clear hrow
         have HBY : Hid (∀ u, Below Z.heap.size Z (ovr Y u)) := fun u => by obtain ⟨x, hx⟩ := reY u; rw [hx]; exact ovr_below _ _
         clear reY hbz
         obtain ⟨v0, hv0⟩ := ovr_self Y
         rw [hv0]
         clear hv0
         go_wp2_with (with_reducible show wpList _ _ _ _ _ _; refine wpList_store_row rfl 24 _ _ rfl (w.heap.size + 1 + 1 + 1) rfl _ _ (RrowW3.out _) #[I y.lo, I y.hi] rfl (one2 rfl rfl) rfl (by kernel_rfl) ?_)
         refine bodyPost_ret (results_cell_tt9 rfl _ _ (w.heap.size + 1 + 1 + 1) 24 _ (0, 0) _ rfl (setRow_same (RrowW3.out _)) Tryz.underlying24 rfl (by kernel_rfl)) rfl ?_
         have hbW0 : Below w.heap.size w ((ovr Y v0).setRow (w.heap.size + 1 + 1 + 1) #[I y.lo, I y.hi]) := below_setRow (HWZ.out _ (HBZ.out.trans ((ovr_below Y v0).mono HBZ.out.size))) (by omega) _
         have hb8 := HBZ.out.trans ((ovr_below Y v0).mono HBZ.out.size)
         have hrd := HPR4.out ((ovr Y v0).setRow (w.heap.size + 1 + 1 + 1) #[I y.lo, I y.hi]) fun j h1 h2 => (setRow_other (by have := HXS.out; omega)).trans (hb8.block j h2)
         rw [hf.out]
         refine ⟨PA, pc, by show Ending.returned _ = Ending.returned (.tuple #[.agg #[I y.lo, I y.hi], .slice PA D.length pc, I 0]); rw [HN.out]; rfl, by rw [HN.out]; exact HPC.out.1, HPC.out.2, by rw [HN.out]; exact hrd, hbW0⟩
        obtain ⟨pb, po, rfl, _, hcc⟩ := HPK.out.1 (by omega)
        have e0 := hcc k hkn 0 (by omega)
        rw [Nat.mul_one, Nat.add_zero] at e0
        have hpi := HIN.out (at0 D k) (by rw [at0_get (by rw [HN.out]; exact hkn)]; exact List.getElem_mem _)
        obtain ⟨j, hj⟩ : ∃ j : Nat, at0 D k = j := ⟨(at0 D k).toNat, by omega⟩
        have hjl : j < l.length := by omega
        have e1 : Y.cell? ⟨pb, po + k, none⟩ = some (I j) := by rw [← hj]; exact e0
        have z9 := ovr_cell e1
        have HST : Hid (trKF l D x (k + 1) = stp9 (at0 l j) y) := by
         show (if (trKF l D x k).2 = 0 then stp9 (at0 l (at0 D k).toNat) (trKF l D x k).1 else trKF l D x k) = _
         rw [HTK.out, hj]
         rfl
        have HKN := Lib.hid hkn
        clear e0 e1 hcc hj hpi
        obtain ⟨gb, go, rfl, _, f0, f1, f2, f3, f4, f5⟩ := rd_gag (HRD.out Y (HWZ.out Y hbz)).1 hjl
        obtain ⟨r, hr⟩ : ∃ r, at0 l j = r := ⟨_, rfl⟩
        rw [hr] at f0 f1 f2 f3 f4 f5 HST
        have HRJ := Lib.hid hr
        have g1 := ovr_cell f1
        have g2 := ovr_cell f2
        clear hr f0 f1 f2 f3 f4 f5
        have reY : ∀ v, ∃ x, ovr Y v = ovr Z x := fun v => ovr_reB hbz v
        have SZ_yW00 := Lib.hid yW00
        replace yW00 := tr_cell reY yW00
        have SZ_RrowW0 := Lib.hid RrowW0.out
        replace RrowW0 := Lib.hid (tr_row reY RrowW0.out)
        have SZ_yW10 := Lib.hid yW10
        replace yW10 := tr_cell reY yW10
        have SZ_RrowW1 := Lib.hid RrowW1.out
        replace RrowW1 := Lib.hid (tr_row reY RrowW1.out)
        have SZ_yW20 := Lib.hid yW20
        replace yW20 := tr_cell reY yW20
        have SZ_yW21 := Lib.hid yW21
        replace yW21 := tr_cell reY yW21
        have SZ_RrowW2 := Lib.hid RrowW2.out
        replace RrowW2 := Lib.hid (tr_row reY RrowW2.out)
        have SZ_yW30 := Lib.hid yW30
        replace yW30 := tr_cell reY yW30
        have SZ_yW31 := Lib.hid yW31
        replace yW31 := tr_cell reY yW31
        have SZ_RrowW3 := Lib.hid RrowW3.out
        replace RrowW3 := Lib.hid (tr_row reY RrowW3.out)
        have SZ_yX00 := Lib.hid yX00
        replace yX00 := tr_cell reY yX00
        have SZ_yX01 := Lib.hid yX01
        replace yX01 := tr_cell reY yX01
        have SZ_RrowX0 := Lib.hid RrowX0.out
        replace RrowX0 := Lib.hid (tr_row reY RrowX0.out)
        have yY00 := ovr_cell (W := Y) (b := Z.heap.size) (o := 0) (v := I y.lo) (by rw [cell_of_row _ _ _ _ _ _ hrow]; rfl)
        have yY01 := ovr_cell (W := Y) (b := Z.heap.size) (o := 1) (v := I y.hi) (by rw [cell_of_row _ _ _ _ _ _ hrow]; rfl)
        have RrowY0 := Lib.hid (ovr_row hrow)
        clear hrow
        have HBY : Hid (∀ u, Below Z.heap.size Z (ovr Y u)) := fun u => by obtain ⟨x, hx⟩ := reY u; rw [hx]; exact ovr_below _ _
        clear reY hbz
        obtain ⟨t, ht⟩ : ∃ t, tmF y r.f 1000000 = t := ⟨_, rfl⟩
        have CT : Hid (∀ V, Calls Tryz.prog 19 #[.agg #[I y.lo, I y.hi], .agg #[I r.f.lo, I r.f.hi], I 1000000] V fun e w' => e = .returned (.tuple #[.agg #[I t.1.lo, I t.1.hi], I t.2]) ∧ Below V.heap.size V w') := fun V => by
         rw [← ht]
         exact times_any y r.f 1000000 V
        have HSTP : Hid (stp9 r y = if t.2 = 0 then suF [t.1, r.o] else t) := by show _ = _; unfold stp9; rw [ht]
        clear ht
        obtain ⟨v0, hv0⟩ := ovr_self Y
        rw [hv0]
        clear hv0
        go_upto_region 15 with fail
        have hbT := ovr_below Y v0
        obtain ⟨T, hT⟩ : ∃ T, T = ovr Y v0 := ⟨_, rfl⟩
        rw [← hT] at hbT
        rw [← hT]
        have hT' := Lib.hid hT
        clear hT
        have hbT' := Lib.hid hbT
        have reT : ∀ v, ∃ x, ovr T v = ovr Y x := fun v => ovr_reB hbT v
        replace yW00 := tr_cell reT yW00
        replace RrowW0 := Lib.hid (tr_row reT RrowW0.out)
        replace yW10 := tr_cell reT yW10
        replace RrowW1 := Lib.hid (tr_row reT RrowW1.out)
        replace yW20 := tr_cell reT yW20
        replace yW21 := tr_cell reT yW21
        replace RrowW2 := Lib.hid (tr_row reT RrowW2.out)
        replace yW30 := tr_cell reT yW30
        replace yW31 := tr_cell reT yW31
        replace RrowW3 := Lib.hid (tr_row reT RrowW3.out)
        replace yX00 := tr_cell reT yX00
        replace yX01 := tr_cell reT yX01
        replace RrowX0 := Lib.hid (tr_row reT RrowX0.out)
        replace yY00 := tr_cell reT yY00
        replace yY01 := tr_cell reT yY01
        replace RrowY0 := Lib.hid (tr_row reT RrowY0.out)
        have HBT : Hid (∀ u, Below Y.heap.size Y (ovr T u)) := fun u => by obtain ⟨x, hx⟩ := reT u; rw [hx]; exact ovr_below _ _
        clear reT hbT
        replace g1 := tr_cell (fun v => ovr_reB hbT'.out v) g1
        replace g2 := tr_cell (fun v => ovr_reB hbT'.out v) g2
        refine Dm.wp_region_late 10 [9] (fun j => if j = 6 then some (fun u _ => u = .tuple #[.agg #[I t.1.lo, I t.1.hi], I t.2]) else none) (by kernel_rfl) (by kernel_rfl) (by kernel_rfl) (by kernel_rfl) [] (E := 24) ⟨by kernel_rfl, alloc_rng9, fun j hj => by cases hj⟩ (by kernel_rfl) (fun i hi => by simp only [List.mem_cons, List.not_mem_nil, or_false] at hi; rcases hi with rfl; rfl) (fun c a d v w h => by cases d <;> exact h) (by kernel_rfl) ?_
        simp only [List.take_succ_cons, List.take_zero, List.drop_succ_cons, List.drop_zero]
        repeat (first | (refine Dk.wpG_one rfl rfl rfl ?_; intro K hK; go_big_quiet_op; go_big_quiet_on) | (refine Dk.wpG_skip rfl ?_; simp only [Act.put, List.setIfInBounds_toArray, List.set_cons_zero, List.set_cons_succ]))
        refine Dk.wpG_make (fun u _ => u = .tuple #[.agg #[I t.1.lo, I t.1.hi], I t.2]) rfl rfl (fun w' hw' hk => ?_) (fun u hu => ?_)
        · go_simp
          exact call_grow (CT.out w')
        obtain ⟨_, _, rfl⟩ := hu
        simp only [Act.put, List.setIfInBounds_toArray, List.set_cons_zero, List.set_cons_succ]
        repeat (first | (refine Dk.wpG_one rfl rfl rfl ?_; intro K hK; go_big_quiet_op; go_big_quiet_on) | (refine Dk.wpG_skip rfl ?_; simp only [Act.put, List.setIfInBounds_toArray, List.set_cons_zero, List.set_cons_succ]))
        refine Dk.wpG_nil (fun w5 hw5 hG => ?_)
        clear hG
        obtain ⟨x5, rfl⟩ : ∃ z, w5 = ovr T z := ⟨w5, ovr_of hw5.le⟩
        clear hw5
        refine Dl.wpTailH_cons (wp_store_row 24 _ _ rfl Z.heap.size rfl _ _ (RrowY0.out x5) _ rfl (one2 rfl rfl) rfl (by kernel_rfl) ⟨trivial, ?_⟩)
        refine Dl.wpTailH_cons (wp_assign _ (I t.2) rfl rfl ⟨trivial, ?_⟩)
        refine Dl.wpTailH_nil ?_
        simp only [Act.put, List.setIfInBounds_toArray, List.set_cons_zero, List.set_cons_succ]
        go_upto_region 16 with fail
        refine name_w fun V hV => ?_
        have HBZV : Below Z.heap.size Z V := by
         rw [hV]
         exact below_setRow ((HBZ.out.trans (hbT'.out.mono HBZ.out.size)).trans ((ovr_below T x5).mono (Nat.le_trans HBZ.out.size hbT'.out.size))) (Nat.le_refl _) _
        have hrV : V.heap[Z.heap.size]? = some (.cells #[I t.1.lo, I t.1.hi] 24 (0, 0)) := by rw [hV]; exact setRow_same (RrowY0.out x5)
        clear hV
        have HBZ2 := Lib.hid HBZV
        clear CT z9
        by_cases ht0 : t.2 = 0
        case neg =>
         have d5 : (t.2 == 0) = false := by simpa using ht0
         have d6 : (t.2 != 0) = true := by simpa using ht0
         rw [if_neg ht0] at HSTP
         have HERR : Hid (trF l g day x = (⟨0, 0⟩, [], t.2)) := by
          show _ = _
          have h1 : trKF l D x (k + 1) = t := by rw [HST.out, HSTP.out]
          have h2 := trK_none (l := l) (p := D) (x := x) (k := k + 1) (by rw [h1]; exact ht0) n HKN.out
          rw [hf.out, h2, h1, if_neg ht0]
         clear ht0
         have reV : ∀ v, ∃ x, ovr V v = ovr Z x := fun v => ovr_reB HBZV v
         have yW00 := SZ_yW00.out
         replace yW00 := tr_cell reV yW00
         have RrowW0 := SZ_RrowW0
         replace RrowW0 := Lib.hid (tr_row reV RrowW0.out)
         have yW10 := SZ_yW10.out
         replace yW10 := tr_cell reV yW10
         have RrowW1 := SZ_RrowW1
         replace RrowW1 := Lib.hid (tr_row reV RrowW1.out)
         have yW20 := SZ_yW20.out
         replace yW20 := tr_cell reV yW20
         have yW21 := SZ_yW21.out
         replace yW21 := tr_cell reV yW21
         have RrowW2 := SZ_RrowW2
         replace RrowW2 := Lib.hid (tr_row reV RrowW2.out)
         have yW30 := SZ_yW30.out
         replace yW30 := tr_cell reV yW30
         have yW31 := SZ_yW31.out
         replace yW31 := tr_cell reV yW31
         have RrowW3 := SZ_RrowW3
         replace RrowW3 := Lib.hid (tr_row reV RrowW3.out)
         have yX00 := SZ_yX00.out
         replace yX00 := tr_cell reV yX00
         have yX01 := SZ_yX01.out
         replace yX01 := tr_cell reV yX01
         have RrowX0 := SZ_RrowX0
         replace RrowX0 := Lib.hid (tr_row reV RrowX0.out)
         have yV00 := ovr_cell (W := V) (b := Z.heap.size) (o := 0) (v := I t.1.lo) (by rw [cell_of_row _ _ _ _ _ _ hrV]; rfl)
         have yV01 := ovr_cell (W := V) (b := Z.heap.size) (o := 1) (v := I t.1.hi) (by rw [cell_of_row _ _ _ _ _ _ hrV]; rfl)
         have RrowV0 := Lib.hid (ovr_row hrV)
         clear hrV
         have HBV : Hid (∀ u, Below Z.heap.size Z (ovr V u)) := fun u => by obtain ⟨x, hx⟩ := reV u; rw [hx]; exact ovr_below _ _
         clear reV HBZV
         obtain ⟨v1, hv1⟩ := ovr_self V
         rw [hv1]
         clear hv1
         go_wp2_with (with_reducible show wpList _ _ _ _ _ _; refine wpList_store_row rfl 24 _ _ rfl (w.heap.size + 1 + 1 + 1) rfl _ _ (RrowW3.out _) #[I 0, I 0] rfl (one2 rfl rfl) rfl (by kernel_rfl) ?_)
         refine bodyPost_ret (results_cell_tt9 rfl _ _ (w.heap.size + 1 + 1 + 1) 24 _ (0, 0) _ rfl (setRow_same (RrowW3.out _)) Tryz.underlying24 rfl (by kernel_rfl)) rfl ?_
         rw [HERR.out]
         exact RetTy.nil rfl (below_setRow (HWZ.out _ (HBZ2.out.trans ((ovr_below V v1).mono HBZ2.out.size))) (by omega) _)
        have d5 : (t.2 == 0) = true := by simpa using ht0
        rw [if_pos ht0] at HSTP
        clear ht0
        have reV : ∀ v, ∃ x, ovr V v = ovr Z x := fun v => ovr_reB HBZV v
        have yW00 := SZ_yW00.out
        replace yW00 := tr_cell reV yW00
        have RrowW0 := SZ_RrowW0
        replace RrowW0 := Lib.hid (tr_row reV RrowW0.out)
        have yW10 := SZ_yW10.out
        replace yW10 := tr_cell reV yW10
        have RrowW1 := SZ_RrowW1
        replace RrowW1 := Lib.hid (tr_row reV RrowW1.out)
        have yW20 := SZ_yW20.out
        replace yW20 := tr_cell reV yW20
        have yW21 := SZ_yW21.out
        replace yW21 := tr_cell reV yW21
        have RrowW2 := SZ_RrowW2
        replace RrowW2 := Lib.hid (tr_row reV RrowW2.out)
        have yW30 := SZ_yW30.out
        replace yW30 := tr_cell reV yW30
        have yW31 := SZ_yW31.out
        replace yW31 := tr_cell reV yW31
        have RrowW3 := SZ_RrowW3
        replace RrowW3 := Lib.hid (tr_row reV RrowW3.out)
        have yX00 := SZ_yX00.out
        replace yX00 := tr_cell reV yX00
        have yX01 := SZ_yX01.out
        replace yX01 := tr_cell reV yX01
        have RrowX0 := SZ_RrowX0
        replace RrowX0 := Lib.hid (tr_row reV RrowX0.out)
        have yV00 := ovr_cell (W := V) (b := Z.heap.size) (o := 0) (v := I t.1.lo) (by rw [cell_of_row _ _ _ _ _ _ hrV]; rfl)
        have yV01 := ovr_cell (W := V) (b := Z.heap.size) (o := 1) (v := I t.1.hi) (by rw [cell_of_row _ _ _ _ _ _ hrV]; rfl)
        have RrowV0 := Lib.hid (ovr_row hrV)
        clear hrV
        have HBV : Hid (∀ u, Below Z.heap.size Z (ovr V u)) := fun u => by obtain ⟨x, hx⟩ := reV u; rw [hx]; exact ovr_below _ _
        clear reV HBZV
        obtain ⟨v1, hv1⟩ := ovr_self V
        rw [hv1]
        clear hv1
        go_upto_region 17 with fail
        obtain ⟨gb', go', hgo, _, _, _, _, f3, f4, _⟩ := rd_gag (HRD.out V (HWZ.out V HBZ2.out)).1 hjl
        obtain ⟨rfl, rfl⟩ : gb' = gb ∧ go' = go := by
         injection hgo with hgo
         injection hgo with h1 h2
         exact ⟨h1.symm, h2.symm⟩
        rw [HRJ.out] at f3 f4
        have g3 := ovr_cell f3
        have g4 := ovr_cell f4
        clear f3 f4 hgo d5 g1 g2
        have hbU := ovr_below V v1
        obtain ⟨U, hU⟩ : ∃ U, U = ovr V v1 := ⟨_, rfl⟩
        rw [← hU] at hbU
        rw [← hU]
        have hU' := Lib.hid hU
        clear hU
        have hbU' := Lib.hid hbU
        have reU : ∀ v, ∃ x, ovr U v = ovr V x := fun v => ovr_reB hbU v
        replace yW00 := tr_cell reU yW00
        replace RrowW0 := Lib.hid (tr_row reU RrowW0.out)
        replace yW10 := tr_cell reU yW10
        replace RrowW1 := Lib.hid (tr_row reU RrowW1.out)
        replace yW20 := tr_cell reU yW20
        replace yW21 := tr_cell reU yW21
        replace RrowW2 := Lib.hid (tr_row reU RrowW2.out)
        replace yW30 := tr_cell reU yW30
        replace yW31 := tr_cell reU yW31
        replace RrowW3 := Lib.hid (tr_row reU RrowW3.out)
        replace yX00 := tr_cell reU yX00
        replace yX01 := tr_cell reU yX01
        replace RrowX0 := Lib.hid (tr_row reU RrowX0.out)
        replace yV00 := tr_cell reU yV00
        replace yV01 := tr_cell reU yV01
        replace RrowV0 := Lib.hid (tr_row reU RrowV0.out)
        have HBU : Hid (∀ u, Below V.heap.size V (ovr U u)) := fun u => by obtain ⟨x, hx⟩ := reU u; rw [hx]; exact ovr_below _ _
        clear reU hbU
        replace g3 := tr_cell (fun v => ovr_reB hbU'.out v) g3
        replace g4 := tr_cell (fun v => ovr_reB hbU'.out v) g4
        obtain ⟨s, hs⟩ : ∃ s, suF [t.1, r.o] = s := ⟨_, rfl⟩
        rw [hs] at HSTP
        have HSU := Lib.hid hs
        clear hs
        refine Dm.wp_region_late 11 [10] (fun j => if j = 6 then some (SlN U #[I t.1.lo, I t.1.hi, I r.o.lo, I r.o.hi] 24 2) else if j = 7 then some (fun u _ => u = .tuple #[.agg #[I s.1.lo, I s.1.hi], I s.2]) else none) (by kernel_rfl) (by kernel_rfl) (by kernel_rfl) (by kernel_rfl) [] (E := 24) ⟨by kernel_rfl, alloc_rng9, fun j hj => by cases hj⟩ (by kernel_rfl) (fun i hi => by simp only [List.mem_cons, List.not_mem_nil, or_false] at hi; rcases hi with rfl; rfl) (fun c a d v w h => by cases d <;> exact h) (by kernel_rfl) ?_
        simp only [List.take_succ_cons, List.take_zero, List.drop_succ_cons, List.drop_zero]
        repeat (first | (refine Dk.wpG_one rfl rfl rfl ?_; intro K hK; go_big_quiet_op; go_big_quiet_on) | (refine Dk.wpG_skip rfl ?_; simp only [Act.put, List.setIfInBounds_toArray, List.set_cons_zero, List.set_cons_succ]))
        refine Dk.wpG_make (SlN U #[I t.1.lo, I t.1.hi, I r.o.lo, I r.o.hi] 24 2) rfl rfl (fun w' hw' hk => ?_) (fun u hu => ?_)
        · go_simp
          exact sln_grow hw'
        obtain ⟨_, _, b2, rfl, _, _⟩ := hu
        simp only [Act.put, List.setIfInBounds_toArray, List.set_cons_zero, List.set_cons_succ]
        repeat (first | (refine Dk.wpG_one rfl rfl rfl ?_; intro K hK; go_big_quiet_op; go_big_quiet_on) | (refine Dk.wpG_skip rfl ?_; simp only [Act.put, List.setIfInBounds_toArray, List.set_cons_zero, List.set_cons_succ]))
        refine Dk.wpG_make (fun u _ => u = .tuple #[.agg #[I s.1.lo, I s.1.hi], I s.2]) rfl rfl (fun w' hw' hk => ?_) (fun u hu => ?_)
        · have hk3 := (hk ⟨6, .data⟩ (by simp) rfl _ _ _ rfl rfl rfl (by simp) rfl).now.at
          have h9 := sumRow (r := t.1) (s := r.o) hk3.1
          rw [HSU.out] at h9
          go_simp
          exact call_grow h9
        obtain ⟨_, _, rfl⟩ := hu
        simp only [Act.put, List.setIfInBounds_toArray, List.set_cons_zero, List.set_cons_succ]
        repeat (first | (refine Dk.wpG_one rfl rfl rfl ?_; intro K hK; go_big_quiet_op; go_big_quiet_on) | (refine Dk.wpG_skip rfl ?_; simp only [Act.put, List.setIfInBounds_toArray, List.set_cons_zero, List.set_cons_succ]))
        refine Dk.wpG_nil (fun w5 hw5 hG => ?_)
        clear hG
        obtain ⟨x6, rfl⟩ : ∃ z, w5 = ovr U z := ⟨w5, ovr_of hw5.le⟩
        clear hw5
        refine Dl.wpTailH_cons (wp_store_row 24 _ _ rfl Z.heap.size rfl _ _ (RrowV0.out x6) _ rfl (one2 rfl rfl) rfl (by kernel_rfl) ⟨trivial, ?_⟩)
        refine Dl.wpTailH_cons (wp_assign _ (I s.2) rfl rfl ⟨trivial, ?_⟩)
        refine Dl.wpTailH_nil ?_
        simp only [Act.put, List.setIfInBounds_toArray, List.set_cons_zero, List.set_cons_succ]
        go_upto_region 18 with fail
        refine name_w fun V2 hV2 => ?_
        have HBZV2 : Below Z.heap.size Z V2 := by
         rw [hV2]
         exact below_setRow ((HBZ2.out.trans (hbU'.out.mono HBZ2.out.size)).trans ((ovr_below U x6).mono (Nat.le_trans HBZ2.out.size hbU'.out.size))) (Nat.le_refl _) _
        have hrV2 : V2.heap[Z.heap.size]? = some (.cells #[I s.1.lo, I s.1.hi] 24 (0, 0)) := by rw [hV2]; exact setRow_same (RrowV0.out x6)
        clear hV2
        have HBZ3 := Lib.hid HBZV2
        have HRV2 := Lib.hid hrV2
        by_cases hs0 : s.2 = 0
        case neg =>
         have d6 : (s.2 != 0) = true := by simpa using hs0
         have HERR : Hid (trF l g day x = (⟨0, 0⟩, [], s.2)) := by
          show _ = _
          have h1 : trKF l D x (k + 1) = s := by rw [HST.out, HSTP.out]
          have h2 := trK_none (l := l) (p := D) (x := x) (k := k + 1) (by rw [h1]; exact hs0) n HKN.out
          rw [hf.out, h2, h1, if_neg hs0]
         clear hs0
         have reV2 : ∀ v, ∃ x, ovr V2 v = ovr Z x := fun v => ovr_reB HBZV2 v
         have yW00 := SZ_yW00.out
         replace yW00 := tr_cell reV2 yW00
         have RrowW0 := SZ_RrowW0
         replace RrowW0 := Lib.hid (tr_row reV2 RrowW0.out)
         have yW10 := SZ_yW10.out
         replace yW10 := tr_cell reV2 yW10
         have RrowW1 := SZ_RrowW1
         replace RrowW1 := Lib.hid (tr_row reV2 RrowW1.out)
         have yW20 := SZ_yW20.out
         replace yW20 := tr_cell reV2 yW20
         have yW21 := SZ_yW21.out
         replace yW21 := tr_cell reV2 yW21
         have RrowW2 := SZ_RrowW2
         replace RrowW2 := Lib.hid (tr_row reV2 RrowW2.out)
         have yW30 := SZ_yW30.out
         replace yW30 := tr_cell reV2 yW30
         have yW31 := SZ_yW31.out
         replace yW31 := tr_cell reV2 yW31
         have RrowW3 := SZ_RrowW3
         replace RrowW3 := Lib.hid (tr_row reV2 RrowW3.out)
         have yX00 := SZ_yX00.out
         replace yX00 := tr_cell reV2 yX00
         have yX01 := SZ_yX01.out
         replace yX01 := tr_cell reV2 yX01
         have RrowX0 := SZ_RrowX0
         replace RrowX0 := Lib.hid (tr_row reV2 RrowX0.out)
         have yV200 := ovr_cell (W := V2) (b := Z.heap.size) (o := 0) (v := I s.1.lo) (by rw [cell_of_row _ _ _ _ _ _ hrV2]; rfl)
         have yV201 := ovr_cell (W := V2) (b := Z.heap.size) (o := 1) (v := I s.1.hi) (by rw [cell_of_row _ _ _ _ _ _ hrV2]; rfl)
         have RrowV20 := Lib.hid (ovr_row hrV2)
         clear hrV2
         have HBV2 : Hid (∀ u, Below Z.heap.size Z (ovr V2 u)) := fun u => by obtain ⟨x, hx⟩ := reV2 u; rw [hx]; exact ovr_below _ _
         clear reV2 HBZV2
         obtain ⟨v2, hv2⟩ := ovr_self V2
         rw [hv2]
         clear hv2
         go_wp2_with (with_reducible show wpList _ _ _ _ _ _; refine wpList_store_row rfl 24 _ _ rfl (w.heap.size + 1 + 1 + 1) rfl _ _ (RrowW3.out _) #[I 0, I 0] rfl (one2 rfl rfl) rfl (by kernel_rfl) ?_)
         refine bodyPost_ret (results_cell_tt9 rfl _ _ (w.heap.size + 1 + 1 + 1) 24 _ (0, 0) _ rfl (setRow_same (RrowW3.out _)) Tryz.underlying24 rfl (by kernel_rfl)) rfl ?_
         rw [HERR.out]
         exact RetTy.nil rfl (below_setRow (HWZ.out _ (HBZ3.out.trans ((ovr_below V2 v2).mono HBZ3.out.size))) (by omega) _)
        have d6 : (s.2 != 0) = false := by simpa using hs0
        have HNX : Hid (trKF l D x (k + 1) = (s.1, 0)) := by show _ = _; rw [HST.out, HSTP.out, ← hs0]
        clear hs0 hrV2 HBZV2
        have hn9 := HDL.out
        have hk9 := HKN.out
        go_wp2_with fail
        go_roundw
        case rel => exact ⟨k + 1, s.1, HKN.out, by go_num, rfl, HNX.out, HBZ3.out, HRV2.out⟩
        case measure => have := HKN.out; simp [intOf]; omega
  have d2 : decide (0 ≤ q) = true := decide_eq_true hq
  obtain ⟨k, rfl⟩ : ∃ k : Nat, q = k := ⟨q.toNat, by omega⟩
  have hk : k < l.length := by have := HQ.out; omega
  obtain ⟨b, o, rfl, _, e0, _, _, _, _, _⟩ := rd_gag (HRD.out X (below_self HUX.out)).1 hk
  have HBY := Lib.hid (gag_by HO.out hk)
  have HKL := Lib.hid hk
  have hk30 : k ≤ 30 := by have := okGag_len HO.out; omega
  obtain ⟨r, hr⟩ : ∃ r, (at0 l k).by_ = r := ⟨_, rfl⟩
  have HF : Hid (path9 l g = (D ++ [(k : Int)]) ++ pth l (f - 1) r ∧ r + 1 ≤ ((f - 1 : Nat) : Int)) := by
   show _ ∧ _
   have h1 := HQ.out
   have h2 := HBY.out
   rw [HP.out]
   obtain ⟨f', rfl⟩ : ∃ f', f = f' + 1 := ⟨f - 1, by omega⟩
   rw [Nat.add_sub_cancel]
   refine ⟨?_, by omega⟩
   rw [List.append_assoc]
   show D ++ pth l (f' + 1) k = _
   rw [pth, if_neg (by omega), Int.toNat_natCast, hr]
   rfl
  rw [hr] at e0 HBY
  have z9 := ovr_cell e0
  clear hq hr e0
  go_wp2_with (at_builtin; go_loud (refine wpList_app_soc rfl _ _ 33 rfl 3 i0 _ 1 8 Tryz.underlying33 hi0 iz0 iz1 iz2 rfl (by decide) X.heap.size D.length (D.map fun x => I x) u9 rfl (HSO.out.over ((Below.refl _ _).alloc (Nat.le_refl _) _)) ⟨(ovr X u).heap.size, 0, none⟩ 1 [I k] rfl rfl (news_lit (cs := #[I k]) (heap_last _ _ _ rfl)) (by simp [Value.oneCell']) (Nat.le_trans (ovr_below X u).size (by simp)) (by have := HDL.out; omega) (by decide) ?_))
  intro v9 w9 hso9 hb9
  obtain ⟨u10, rfl⟩ : ∃ z, w9 = ovr X z := ⟨w9, ovr_of (((ovr_below X u).alloc (ovr_below X u).size _).trans hb9)⟩
  have HSO9 : Hid (SoC 3 1 X.heap.size (D ++ [(k : Int)]).length ((D ++ [(k : Int)]).map fun x => I x) v9 (ovr X u10)) := by
   show SoC _ _ _ _ _ _ _
   rw [← app_one, List.length_append]
   exact hso9
  clear hso9 hb9
  go_wp2_with fail
  go_roundw
  case rel => exact ⟨D ++ [(k : Int)], f - 1, r, u10, rfl, HF.out.1, HF.out.2, HBY.out.1, by have := HBY.out.2; have := HKL.out; omega, rfl, HSO9.out⟩
  case measure => have := HBY.out; show (r + 1).toNat < ((k : Int) + 1).toNat; omega
theorem trace_any (l : List Gag) (g day : Int) (x : Rng) (A : Option Addr) (c : Nat) (w : World) (B : Nat) (hB : B ≤ w.heap.size) (hx : Rd w B 6 A l.length (rG l)) :
 Calls Tryz.prog 8 #[.slice A l.length c, I g, I day, x.val] w (RetTr w (trF l g day x)) :=
 (traceY_any l g day x A c w B hB hx).mono fun _ _ ⟨P, n, he, h1, h2, hr, hb⟩ => ⟨P, n, he, h1, h2, hr.1, hb⟩
end Go.Proofs.YtliolnfcgaflcaaGreat.Un
