/- Ranges in memory that is new; the contract of Balance of package units. -/
import Derived.Test.YtmadlmmfbpmebaaUw
namespace Go.Proofs.Ytmadlmmfbpmebaa
open Go.RowKit
theorem rng_info : (Try.prog.info? 38).map (fun i => (i.zero, i.size, i.bytes)) = some (some (.agg #[I 0, I 0]), 2, 16) := by kernel_rfl
/-- The cells of some ranges. -/
def rc (l : List Rng) : List Value := l.flatMap fun r => [I r.lo, I r.hi]
theorem rc_app (l : List Rng) (r : Rng) : rc (l ++ [r]) = rc l ++ [I r.lo, I r.hi] := by simp [rc]
theorem flat_congr {sz n : Nat} {g g' : Nat → Nat → Value} (h : ∀ k, k < n → ∀ j, j < sz → g k j = g' k j) : flat sz g n = flat sz g' n := by
  apply List.map_congr_left
  intro i hi
  have hi' : i < n * sz := by simpa using hi
  have hs : 0 < sz := by
    rcases Nat.eq_zero_or_pos sz with h0 | h0
    · subst h0; simp at hi'
    · exact h0
  exact h _ ((Nat.div_lt_iff_lt_mul hs).2 hi') _ (Nat.mod_lt _ hs)
theorem at0_app {α : Type} [Inhabited α] (l r : List α) {k : Nat} (hk : k < l.length) : at0 (l ++ r) k = at0 l k := by
  rw [at0_get (by simp; omega), at0_get hk, List.getElem_append_left hk]
theorem at0_last {α : Type} [Inhabited α] (l : List α) (x : α) : at0 (l ++ [x]) l.length = x := by
  rw [at0_get (by simp)]; simp
theorem rc_flat_aux : ∀ (n : Nat) (l : List Rng), l.length = n → rc l = flat 2 (rR l) n
  | 0, l, h => by
    have : l = [] := List.eq_nil_of_length_eq_zero h
    subst this; rfl
  | n + 1, l, h => by
    obtain ⟨i, x, rfl⟩ : ∃ i x, l = i ++ [x] := ⟨l.dropLast, l.getLast (by intro e; subst e; simp at h), (List.dropLast_concat_getLast _).symm⟩
    have hi : i.length = n := by simpa using h
    rw [rc_app, flat_succ 2 (by omega), rc_flat_aux n i hi]
    congr 1
    · exact flat_congr fun k hk j _ => by simp only [rR]; rw [at0_app _ _ (by omega)]
    · show _ = (List.range 2).map (at0 (i ++ [x]) n).c
      rw [← hi, at0_last]; rfl
theorem rc_flat (l : List Rng) : rc l = flat 2 (rR l) l.length := rc_flat_aux _ l rfl
theorem Rd.of_rc {w : World} {base n : Nat} {e : TypeId} {v : Value} {l : List Rng} (hn : n = l.length) (h : w.ownsRow base e 2 v n (rc l)) : ∃ A c, v = .slice A n c ∧ n ≤ c ∧ Rd w w.heap.size 2 A n (rR l) := by
  subst hn
  rw [rc_flat] at h
  exact Rd.of_own_cap h
/-- What was made of the first k elements. -/
def mk {α β : Type} [Inhabited α] (f : α → β) (xs : List α) (k : Nat) : List β := (List.range k).map fun j => f (at0 xs j)
theorem mk_succ {α β : Type} [Inhabited α] (f : α → β) (xs : List α) (k : Nat) : mk f xs (k + 1) = mk f xs k ++ [f (at0 xs k)] := by simp [mk, List.range_succ]
theorem mk_len {α β : Type} [Inhabited α] (f : α → β) (xs : List α) (k : Nat) : (mk f xs k).length = k := by simp [mk]
theorem mk_at {α β : Type} [Inhabited α] [Inhabited β] (f : α → β) (xs : List α) {k j : Nat} (h : j < k) : at0 (mk f xs k) j = f (at0 xs j) := by
  rw [at0_get (by rw [mk_len]; exact h)]; simp [mk]
/-- What the whole leaves for a part. -/
def naF (low high : Int) (s r : Rng) : Rng := cuF r ⟨s.lo - (high - r.hi), s.hi - (low - r.lo)⟩
def baF (xs : List Rng) (whole : Rng) : List Rng × Rng × Int :=
  if chk xs = 0 then (if rngOk whole then (if (cuF ⟨(addK xs xs.length).1, (addK xs xs.length).2⟩ whole).hi < (cuF ⟨(addK xs xs.length).1, (addK xs xs.length).2⟩ whole).lo then ([], ⟨0, 0⟩, 7)
    else (mk (naF (addK xs xs.length).1 (addK xs xs.length).2 (cuF ⟨(addK xs xs.length).1, (addK xs xs.length).2⟩ whole)) xs xs.length, cuF ⟨(addK xs xs.length).1, (addK xs xs.length).2⟩ whole, 0)) else ([], ⟨0, 0⟩, 2)) else ([], ⟨0, 0⟩, chk xs)
/-- Ranges in new memory, a range and an error's number. -/
def RetB (w : World) (q : List Rng × Rng × Int) (e : Ending) (w' : World) : Prop := ∃ A n c, e = .returned (.tuple #[.slice A n c, q.2.1.val, I q.2.2]) ∧ n = q.1.length ∧ n ≤ c ∧ Rd w' w'.heap.size 2 A n (rR q.1) ∧ Below w.heap.size w w'
theorem setRow_id {w : World} {g : Nat} {cs : Array Value} {t : TypeId} {fr : Nat × Nat} (h : w.heap[g]? = some (.cells cs t fr)) : w.setRow g cs = w := by
  unfold World.setRow
  have e : (w.heap.modify g fun | .cells _ elem frozen => .cells cs elem frozen | o => o) = w.heap := by
    apply Array.ext_getElem?
    intro i
    rw [Array.getElem?_modify]
    split
    · rename_i hi
      subst hi
      rw [h]; rfl
    · rfl
  exact congrArg (fun x => ({ w with heap := x } : World)) e
theorem results_tmp_cell_tmp {P : Program} {fn : Func} {p t1 t2 : Tmp} {ty : TypeId} (h : fn.results = #[.tmp t1, .cell p ty, .tmp t2]) (tmps : Array Value) (w : World) (g : Nat) (t : TypeId) (cs : Array Value) (fr : Nat × Nat) (d : TypeDesc)
    (hp : tmps.getD p undef = .pointer (some ⟨g, 0, none⟩)) (hg : w.heap[g]? = some (.cells cs t fr))
    (hu : P.underlying ty = some d) (hd : (match d with | .struct _ | .array _ _ => true | _ => false) = true) (hi : (P.info? ty).map (·.size) = some cs.size) :
    (results fn tmps).run P w = .ok (.tuple #[tmps.getD t1 undef, .agg cs, tmps.getD t2 undef]) w := by
  have hp' : tmps[p]?.getD undef = .pointer (some ⟨g, 0, none⟩) := by simpa using hp
  simp [results, h, hp', asAddr, run_loadVar_row w g t ty cs fr d hg hu hd hi]
set_option maxRecDepth 100000 in
set_option maxHeartbeats 2000000 in
theorem balance_any (A : Option Addr) (n c : Nat) (xs : List Rng) (r : Rng) (w : World) (B : Nat) (hn : n = xs.length) (hm : n ≤ maxLen) (hB : B ≤ w.heap.size) (hx : Rd w B 2 A n (rR xs)) :
    Calls Try.prog 28 #[.slice A n c, r.val] w (RetB w (baF xs r)) := by
  subst hn
  have hf : Hid (baF xs r = if chk xs = 0 then (if rngOk r then (if (cuF ⟨(addK xs xs.length).1, (addK xs xs.length).2⟩ r).hi < (cuF ⟨(addK xs xs.length).1, (addK xs xs.length).2⟩ r).lo then ([], ⟨0, 0⟩, 7)
    else (mk (naF (addK xs xs.length).1 (addK xs xs.length).2 (cuF ⟨(addK xs xs.length).1, (addK xs xs.length).2⟩ r)) xs xs.length, cuF ⟨(addK xs xs.length).1, (addK xs xs.length).2⟩ r, 0)) else ([], ⟨0, 0⟩, 2)) else ([], ⟨0, 0⟩, chk xs)) := rfl
  have HX : Hid (∀ W', Below w.heap.size w W' → Rd W' B 2 A xs.length (rR xs) ∧ B ≤ W'.heap.size) := fun W' h => ⟨hx.below (h.mono hB), Nat.le_trans hB h.size⟩
  have cc : Hid (∀ W', Rd W' B 2 A xs.length (rR xs) ∧ B ≤ W'.heap.size → Calls Try.prog 77 #[.slice A xs.length c] W' fun e w' => e = .returned (I (chk xs)) ∧ Below W'.heap.size W' w') := fun W' h => check_any A xs.length c xs W' B rfl hm h.2 h.1
  have ca : Hid (∀ W', chk xs = 0 → Rd W' B 2 A xs.length (rR xs) ∧ B ≤ W'.heap.size → Calls Try.prog 79 #[.slice A xs.length c] W' (RetTw W' (addK xs xs.length))) := fun W' h0 h => added_any A c xs W' B (by have := (chk_ok h0).1; omega) (chk_ok h0).2 h.2 h.1
  have cv := Lib.hid fun W k => valid_one r W k
  obtain ⟨i0, hi0, iz0, iz1, iz2⟩ := info_parts rng_info
  clear hx hB hm
  obtain ⟨V, hV⟩ : ∃ V, V = ((w.alloc (.cells #[I r.lo, I r.hi] 38)).alloc (.cells #[I 0, I 0] 38)) := ⟨_, rfl⟩
  have rowV0 : V.heap[w.heap.size]? = some (.cells #[I r.lo, I r.hi] 38 (0, 0)) := by rw [hV]; exact heap_before (heap_last _ _ _ rfl)
  have yV00 := ovr_cell (W := V) (b := w.heap.size) (o := 0) (v := I r.lo) (by rw [cell_of_row _ _ _ _ _ _ rowV0]; rfl)
  have yV01 := ovr_cell (W := V) (b := w.heap.size) (o := 1) (v := I r.hi) (by rw [cell_of_row _ _ _ _ _ _ rowV0]; rfl)
  have RrowV0 := Lib.hid (ovr_row rowV0)
  clear rowV0
  have rowV1 : V.heap[w.heap.size + 1]? = some (.cells #[I 0, I 0] 38 (0, 0)) := by rw [hV]; exact heap_last _ _ _ (by simp)
  have yV10 := ovr_cell (W := V) (b := w.heap.size + 1) (o := 0) (v := I 0) (by rw [cell_of_row _ _ _ _ _ _ rowV1]; rfl)
  have yV11 := ovr_cell (W := V) (b := w.heap.size + 1) (o := 1) (v := I 0) (by rw [cell_of_row _ _ _ _ _ _ rowV1]; rfl)
  have RrowV1 := Lib.hid (ovr_row rowV1)
  clear rowV1
  have HUV : Hid (∀ u, Below w.heap.size w (ovr V u)) := U2 hV
  have HV := Lib.hid hV
  clear hV
  by_cases h0 : chk xs = 0
  case neg =>
    rw [if_neg h0] at hf
    have h0b : (chk xs == 0) = false := by simpa using h0
    have h0c : (chk xs != 0) = true := by simpa using h0
    clear h0
    go_enter Try.func28, Try.ntmps28
    go_upto_region 1 with (fail)
    rw [← HV.out]
    obtain ⟨u0, hu0⟩ := ovr_self V
    rw [hu0]
    clear hu0
    go_wp2_with fail
    refine (cc.out _ (HX.out _ (HUV.out _))).mono ?_
    rintro e w1 ⟨rfl, hb1⟩
    obtain ⟨u1, rfl⟩ := ovr_next hb1
    clear hb1
    go_wp2_with (refine wpList_store_row rfl 38 _ _ rfl (w.heap.size + 1) rfl _ _ (RrowV1.out _) _ rfl (one2 rfl rfl) rfl (by kernel_rfl) ?_)
    refine bodyPost_ret (results_tmp_cell_tmp rfl _ _ (w.heap.size + 1) 38 _ (0, 0) _ rfl (setRow_same (RrowV1.out _)) Try.underlying38 rfl (by kernel_rfl)) rfl ?_
    exact ⟨none, 0, 0, by rw [hf.out]; rfl, by rw [hf.out]; rfl, Nat.le_refl _, Rd.nil, below_setRow (HUV.out _) (by omega) _⟩
  have hl := chk_ok h0
  rw [if_pos h0] at hf
  have cb := Lib.hid fun W' => ca.out W' h0
  have cd : Hid (∀ W', Rd W' B 2 A xs.length (rR xs) ∧ B ≤ W'.heap.size → Calls Try.prog 77 #[.slice A xs.length c] W' fun e w' => e = .returned (I 0) ∧ Below W'.heap.size W' w') := fun W' h => by have := cc.out W' h; rwa [h0] at this
  have HL := Lib.hid hl
  clear h0 hl ca cc
  rcases hv : rngOk r with _ | _ <;> (rw [hv] at hf cv)
  · go_enter Try.func28, Try.ntmps28
    go_upto_region 1 with (fail)
    rw [← HV.out]
    obtain ⟨u0, hu0⟩ := ovr_self V
    rw [hu0]
    clear hu0
    go_wp2_with fail
    refine (cd.out _ (HX.out _ (HUV.out _))).mono ?_
    rintro e w1 ⟨rfl, hb1⟩
    obtain ⟨u1, rfl⟩ := ovr_next hb1
    clear hb1
    go_wp2_with fail
    refine (cv.out _ _ rfl).mono ?_
    rintro e w1 ⟨rfl, hb1⟩
    obtain ⟨u2, rfl⟩ := ovr_next hb1
    clear hb1
    go_wp2_with (refine wpList_store_row rfl 38 _ _ rfl (w.heap.size + 1) rfl _ _ (RrowV1.out _) _ rfl (one2 rfl rfl) rfl (by kernel_rfl) ?_)
    refine bodyPost_ret (results_tmp_cell_tmp rfl _ _ (w.heap.size + 1) 38 _ (0, 0) _ rfl (setRow_same (RrowV1.out _)) Try.underlying38 rfl (by kernel_rfl)) rfl ?_
    exact ⟨none, 0, 0, by rw [hf.out]; rfl, by rw [hf.out]; rfl, Nat.le_refl _, Rd.nil, below_setRow (HUV.out _) (by omega) _⟩
  rw [if_pos rfl] at hf
  have Hv := Lib.hid hv
  clear hv
  obtain ⟨q, hq⟩ : ∃ q, addK xs xs.length = q := ⟨_, rfl⟩
  have Hq := Lib.hid hq
  rw [hq] at hf cb
  clear hq
  obtain ⟨s, hs⟩ : ∃ s, cuF ⟨q.1, q.2⟩ r = s := ⟨_, rfl⟩
  have Hs := Lib.hid hs
  rw [hs] at hf
  have cq := Lib.hid fun w => cut_any ⟨q.1, q.2⟩ r w
  rw [hs] at cq
  clear hs
  go_enter Try.func28, Try.ntmps28
  go_upto_region 1 with (fail)
  rw [← HV.out]
  obtain ⟨u0, hu0⟩ := ovr_self V
  rw [hu0]
  clear hu0
  go_wp2_with fail
  refine (cd.out _ (HX.out _ (HUV.out _))).mono ?_
  rintro e w1 ⟨rfl, hb1⟩
  obtain ⟨u1, rfl⟩ := ovr_next hb1
  clear hb1
  go_wp2_with fail
  refine (cv.out _ _ rfl).mono ?_
  rintro e w1 ⟨rfl, hb1⟩
  obtain ⟨u2, rfl⟩ := ovr_next hb1
  clear hb1
  go_wp2_with fail
  refine (cb.out _ (HX.out _ (HUV.out _))).mono ?_
  rintro e w1 ⟨rfl, hb1⟩
  obtain ⟨u3, rfl⟩ := ovr_next hb1
  clear hb1
  go_wp2_with fail
  refine (cq.out _).mono ?_
  rintro e w1 ⟨rfl, hb1⟩
  obtain ⟨u4, rfl⟩ := ovr_next hb1
  clear hb1
  go_upto_region 8 with (refine wpList_store_row rfl 38 _ _ rfl (w.heap.size + 1) rfl _ _ (RrowV1.out _) _ rfl (one2 rfl rfl) rfl (by kernel_rfl) ?_)
  obtain ⟨X, hX⟩ : ∃ X, X = (ovr V u4).setRow (w.heap.size + 1) #[I s.lo, I s.hi] := ⟨_, rfl⟩
  have hr : X.heap[w.heap.size + 1]? = some (.cells #[I s.lo, I s.hi] 38 (0, 0)) := by rw [hX]; exact setRow_same (RrowV1.out u4)
  have hUX : Below w.heap.size w X := by rw [hX]; exact below_setRow (HUV.out _) (by omega) _
  have HUX : Hid (∀ u, Below w.heap.size w (ovr X u)) := fun u => hUX.trans ((ovr_below X u).mono hUX.size)
  rw [← hX]
  clear hX hUX yV00 yV01 yV10 yV11
  have yX00 := ovr_cell (W := X) (b := w.heap.size + 1) (o := 0) (v := I s.lo) (by rw [cell_of_row _ _ _ _ _ _ hr]; rfl)
  have zX00 : ∀ u, (ovr X u).frozen? ⟨w.heap.size + 1, 0, none⟩ = false := fun u => frozen_of_row _ _ _ _ _ (ovr_row hr u)
  have yX01 := ovr_cell (W := X) (b := w.heap.size + 1) (o := 1) (v := I s.hi) (by rw [cell_of_row _ _ _ _ _ _ hr]; rfl)
  have zX01 : ∀ u, (ovr X u).frozen? ⟨w.heap.size + 1, 1, none⟩ = false := fun u => frozen_of_row _ _ _ _ _ (ovr_row hr u)
  have RrowX0 := Lib.hid (ovr_row hr)
  clear hr
  obtain ⟨u5, hu5⟩ := ovr_self X
  rw [hu5]
  clear hu5
  simp only [Act.put]
  by_cases h2 : s.hi < s.lo
  · rw [if_pos h2] at hf
    have h2b : decide (s.hi < s.lo) = true := decide_eq_true h2
    clear h2
    go_wp2_with (refine wpList_store_row rfl 38 _ _ rfl (w.heap.size + 1) rfl _ _ (RrowX0.out _) _ rfl (one2 rfl rfl) rfl (by kernel_rfl) ?_)
    refine bodyPost_ret (results_tmp_cell_tmp rfl _ _ (w.heap.size + 1) 38 _ (0, 0) _ rfl (setRow_same (RrowX0.out _)) Try.underlying38 rfl (by kernel_rfl)) rfl ?_
    exact ⟨none, 0, 0, by rw [hf.out]; rfl, by rw [hf.out]; rfl, Nat.le_refl _, Rd.nil, below_setRow (HUX.out _) (by omega) _⟩
  rw [if_neg h2] at hf
  have h2b : decide (s.hi < s.lo) = false := decide_eq_false h2
  have HBx : Hid (Below X.heap.size X (ovr X u5)) := ovr_below X u5
  have HSx : Hid (w.heap.size ≤ X.heap.size) := by have := (HUX.out X).size; rw [← ovr_of (Below.refl _ _)] at this; exact this
  clear h2
  go_wp2_with fail
  go_loopw [4, 43] (fun v i wr => ∃ k : Nat, k ≤ xs.length ∧ i = .int .i64 k ∧ wr.ownsRow X.heap.size 38 2 v k (rc (mk (naF q.1 q.2 s) xs k)) ∧ Below X.heap.size X wr) (fun _ i _ => xs.length - (intOf i).toNat)
  case atStart => exact ⟨0, by omega, rfl, ⟨rfl, .inl ⟨rfl, rfl⟩⟩, HBx.out⟩
  case round =>
    obtain ⟨k, hk, rfl, hown, hbw⟩ := hrel
    rename World => Y
    by_cases hlt : k < xs.length
    · have kb : decide ((k : Int) < (xs.length : Int)) = true := decide_eq_true (by omega)
      have HB := Lib.hid hbw
      have Hown := Lib.hid hown
      obtain ⟨u6, rfl⟩ : ∃ u, Y = ovr X u := ⟨Y, ovr_of hbw⟩
      obtain ⟨b, o, rfl, _, e0, e1⟩ := (HX.out _ (HUX.out u6)).1.rng hlt
      have hr := rngOk_iff.1 (rngs_at HL.out.2 hlt)
      obtain ⟨x, hx⟩ : ∃ x, at0 xs k = x := ⟨_, rfl⟩
      rw [hx] at e0 e1 hr
      have hss : (-1000000000000000 ≤ s.lo ∧ s.hi ≤ 1000000000000000) := by
        have h1 := rngOk_iff.1 Hv.out
        have h2 := Hs.out
        unfold cuF at h2
        rw [← h2]
        simp only
        omega
      have hqb := addK_bd (fun j => rngs_at HL.out.2) xs.length (Nat.le_refl _)
      rw [Hq.out] at hqb
      have hnl := HL.out.1
      have hrr := rngOk_iff.1 Hv.out
      have hs2 : s.lo = max q.1 r.lo ∧ s.hi = min q.2 r.hi := by have h2 := Hs.out; unfold cuF at h2; rw [← h2]; exact ⟨rfl, rfl⟩
      have c1 : IntKind.i64.wrap (q.2 - x.hi) = q.2 - x.hi := IntWalk.i64_in _ (by omega)
      have c2 : IntKind.i64.wrap (q.1 - x.lo) = q.1 - x.lo := IntWalk.i64_in _ (by omega)
      have c3 : IntKind.i64.wrap (s.lo - (q.2 - x.hi)) = s.lo - (q.2 - x.hi) := IntWalk.i64_in _ (by omega)
      have c4 : IntKind.i64.wrap (s.hi - (q.1 - x.lo)) = s.hi - (q.1 - x.lo) := IntWalk.i64_in _ (by omega)
      have hmk : Hid (mk (naF q.1 q.2 s) xs (k + 1) = mk (naF q.1 q.2 s) xs k ++ [cuF x ⟨s.lo - (q.2 - x.hi), s.hi - (q.1 - x.lo)⟩]) := by show _ = _; rw [mk_succ, hx]; rfl
      clear hs2 hrr hqb hss hr hx hbw hown
      go_upto_region 13 with (fail)
      clear e0 e1
      obtain ⟨Z, hZ⟩ : ∃ Z, Z = ((ovr X u6).alloc (.cells #[I x.lo, I x.hi] 38)) := ⟨_, rfl⟩
      have reZ : ∀ v, ∃ x, ovr Z v = ovr X x := fun v => ovr_re1 hZ
      replace yX00 := tr_cell reZ yX00
      replace zX00 := tr_froz reZ zX00
      replace yX01 := tr_cell reZ yX01
      replace zX01 := tr_froz reZ zX01
      replace RrowX0 := Lib.hid (tr_row reZ RrowX0.out)
      have rowZ0 : Z.heap[(ovr X u6).heap.size]? = some (.cells #[I x.lo, I x.hi] 38 (0, 0)) := by rw [hZ]; exact heap_last _ _ _ rfl
      have yZ00 := ovr_cell (W := Z) (b := (ovr X u6).heap.size) (o := 0) (v := I x.lo) (by rw [cell_of_row _ _ _ _ _ _ rowZ0]; rfl)
      have yZ01 := ovr_cell (W := Z) (b := (ovr X u6).heap.size) (o := 1) (v := I x.hi) (by rw [cell_of_row _ _ _ _ _ _ rowZ0]; rfl)
      have RrowZ0 := Lib.hid (ovr_row rowZ0)
      clear rowZ0
      have HBZ : Hid (∀ u, Below X.heap.size X (ovr Z u)) := fun u => by obtain ⟨x, hx⟩ := reZ u; rw [hx]; exact ovr_below _ _
      have HUZ : Hid (∀ u, Below w.heap.size w (ovr Z u)) := fun u => by obtain ⟨x, hx⟩ := reZ u; rw [hx]; exact HUX.out x
      clear reZ
      have HZ := Lib.hid hZ
      clear hZ
      rw [← HZ.out]
      obtain ⟨u7, hu7⟩ := ovr_self Z
      rw [hu7]
      clear hu7
      go_wp2_with fail
      refine (cut_any x ⟨s.lo - (q.2 - x.hi), s.hi - (q.1 - x.lo)⟩ _).mono ?_
      rintro e w1 ⟨rfl, hb1⟩
      obtain ⟨u8, rfl⟩ := ovr_next hb1
      clear hb1
      obtain ⟨z, hz⟩ : ∃ z, cuF x ⟨s.lo - (q.2 - x.hi), s.hi - (q.1 - x.lo)⟩ = z := ⟨_, rfl⟩
      rw [hz] at hmk
      rw [hz]
      clear hz c1 c2 c3 c4
      have hle : Below (ovr X u6).heap.size (ovr X u6) (ovr Z u8) := under2 (by rw [← HZ.out]; exact ovr_below Z u8)
      have hown := own_below Hown.out hle
      have hbz : Below X.heap.size X (ovr Z u8) := HB.out.trans (hle.mono HB.out.size)
      have hsz := hbz.size
      have hrc := Lib.hid (rc_app (mk (naF q.1 q.2 s) xs k) z)
      have hin : (ovr X u6).heap.size < (ovr Z u8).heap.size := by
        have := (ovr_below Z u8).size
        have h2 := congrArg (fun w : World => w.heap.size) HZ.out
        simp at h2
        omega
      clear hle
      go_wp2_with (at_builtin; go_loud (refine wpList_append_own _ rfl _ _ 36 rfl X.heap.size 38 i0 _ 2 16 Try.underlying36 hi0 iz0 iz1 iz2 rfl (by decide) _ k (rc (mk (naF q.1 q.2 s) xs k)) rfl (hown.alloc _) ⟨(ovr Z u8).heap.size, 0, none⟩ 1 1 [I z.lo, I z.hi] rfl (by rfl) (news_lit (cs := #[I z.lo, I z.hi]) (heap_last _ _ _ rfl)) ?h1 ?h63 ?hby ?hba ?_))
      case h1 => simp [Value.oneCell']
      case h63 => unfold maxLen; omega
      case hby => omega
      case hba => first | omega | (simp; omega)
      intro v' w2 own3 hg2 _
      have hB3 : Hid (Below X.heap.size X w2) := (hbz.alloc (by omega) _).grown hg2 (by simp; omega) (fun g hg => (hown.lt g hg).1)
      have own4 : Hid (w2.ownsRow X.heap.size 38 2 v' (k + 1) (rc (mk (naF q.1 q.2 s) xs (k + 1)))) := by
        show w2.ownsRow _ _ _ _ _ _
        rw [hmk.out, hrc.out]; simpa using own3
      clear own3 hg2 hown hbz hsz hin
      go_wp2_with fail
      go_roundw
      case rel => exact ⟨k + 1, by omega, by go_num, own4.out, hB3.out⟩
      case measure => simp [intOf]; omega
    · obtain rfl : k = xs.length := by omega
      obtain ⟨u6, rfl⟩ : ∃ u, Y = ovr X u := ⟨Y, ovr_of hbw⟩
      obtain ⟨A', c', rfl, hc', hr'⟩ := Rd.of_rc (mk_len _ _ _).symm hown
      have HR := Lib.hid hr'
      have HC := Lib.hid hc'
      clear hown hr' hc' hbw
      go_upto_region 15 with (fail)
      have hbY2 := ovr_below X u6
      obtain ⟨Y2, hY2⟩ : ∃ Y2, Y2 = ovr X u6 := ⟨_, rfl⟩
      rw [← hY2] at hbY2 HR
      rw [← hY2]
      clear hY2
      have reY2 : ∀ v, ∃ x, ovr Y2 v = ovr X x := fun v => ovr_reB hbY2 v
      replace yX00 := tr_cell reY2 yX00
      replace zX00 := tr_froz reY2 zX00
      replace yX01 := tr_cell reY2 yX01
      replace zX01 := tr_froz reY2 zX01
      replace RrowX0 := Lib.hid (tr_row reY2 RrowX0.out)
      have HUY2 : Hid (∀ u, Below w.heap.size w (ovr Y2 u)) := fun u => by obtain ⟨x, hx⟩ := reY2 u; rw [hx]; exact HUX.out x
      clear reY2 hbY2
      refine wp_region_seq 3 (fun _ => none) (by kernel_rfl) (by kernel_rfl) (by kernel_rfl) (by kernel_rfl) ?_
      simp only [List.take_succ_cons, List.take_zero, List.drop_succ_cons, List.drop_zero]
      repeat (refine wpG_one rfl rfl rfl ?_; intro K hK; go_big_quiet_op; go_big_quiet_on)
      refine wpG_nil (fun w5 hw5 hG => ?_)
      clear hG
      obtain ⟨u9, rfl⟩ : ∃ x, w5 = ovr Y2 x := ⟨w5, ovr_of hw5.le⟩
      have hY : Hid (Rd (ovr Y2 u9) (ovr Y2 u9).heap.size 2 A' xs.length (rR (mk (naF q.1 q.2 s) xs xs.length))) := (HR.out.below (ovr_below Y2 u9)).more (ovr_below Y2 u9).size
      clear hw5
      refine wpTail_cons ?_
      refine wp_store_row 38 _ _ rfl (w.heap.size + 1) rfl _ _ (RrowX0.out _) _ rfl (one2 rfl rfl) rfl (by kernel_rfl) ?_
      rw [setRow_id (RrowX0.out _)]
      refine wpTail_cons ?_
      refine wp_assign _ (I 0) rfl rfl ?_
      refine wpTail_nil ?_
      simp only [Act.put, List.setIfInBounds_toArray, List.set_cons_zero, List.set_cons_succ]
      go_wp2_with fail
      refine bodyPost_ret (results_tmp_cell_tmp rfl _ _ (w.heap.size + 1) 38 _ (0, 0) _ rfl (RrowX0.out _) Try.underlying38 rfl (by kernel_rfl)) rfl ?_
      exact ⟨A', xs.length, c', by rw [hf.out]; rfl, by rw [hf.out]; exact (mk_len _ _ _).symm, HC.out, by rw [hf.out]; exact hY.out, HUY2.out _⟩
end Go.Proofs.Ytmadlmmfbpmebaa
