/- The walk of the law UnitsBalanced. -/
import Derived.Test.YtmadlmmfbpmebaaU8
import Derived.Test.YtmadlmmfbpmebaaBz
import Derived.Test.YtmadlmmfbpmebaaJy
namespace Go.Proofs.Ytmadlmmfbpmebaa
open Go.RowKit
def SlO (sz n : Nat) (g : Nat → Nat → Value) (u : Value) (w : World) : Prop := ∃ A c, u = .slice A n c ∧ n ≤ c ∧ c ≤ maxLen ∧ Rd w w.heap.size sz A n g
theorem own_growO {P : Program} {f : FuncId} {args : Array Value} {w : World} {sz n : Nat} {g : Nat → Nat → Value} (h : Calls P f args w (RetLc w sz n g)) : Calls P f args w fun e w' => ∃ u, e = .returned u ∧ Le w w' ∧ Box (SlO sz n g) u w' :=
  h.mono fun _ _ ⟨A, c, he, h1, h2, hr, hb⟩ => ⟨_, he, hb, fun _ hl => ⟨A, c, rfl, h1, h2, (hr.below hl).more hl.size⟩⟩
def SlB (l : List Rng) (t : Rng) (er : Int) (u : Value) (w : World) : Prop := ∃ A c, u = .tuple #[.slice A l.length c, t.val, I er] ∧ Rd w w.heap.size 2 A l.length (rR l)
theorem retB_growO {P : Program} {f : FuncId} {args : Array Value} {w : World} {l : List Rng} {t : Rng} {er : Int} (h : Calls P f args w (RetB w (l, t, er))) : Calls P f args w fun e w' => ∃ u, e = .returned u ∧ Le w w' ∧ Box (SlB l t er) u w' :=
  h.mono fun _ _ ⟨A, n, c, he, hn, _, hr, hb⟩ => ⟨_, he, hb, fun _ hl => ⟨A, c, by subst hn; rfl, by subst hn; exact (hr.below hl).more hl.size⟩⟩
theorem SlB.at {l : List Rng} {t : Rng} {er : Int} {A : Option Addr} {c : Nat} {w : World} (h : SlB l t er (.tuple #[.slice A l.length c, t.val, I er]) w) : Rd w w.heap.size 2 A l.length (rR l) := by
  obtain ⟨A', c', hu, hr⟩ := h
  have e : A = A' := by simp at hu; exact hu.1
  subst e
  exact hr
/-- The point that the law takes in the j-th part. -/
def trF (xs : List Rng) (ps : List Int) (j : Nat) : Int := plF (at0 xs j) (if j < ps.length then at0 ps j else 0)
def okP (r : Rng) : Prop := r.lo ≤ r.hi ∧ -1000000000000 ≤ r.lo ∧ r.hi ≤ 1000000000000
theorem flat_t {g : Nat → Nat → Value} (k : Nat) : flat 1 g (k + 1) = flat 1 g k ++ [g k 0] := by
  rw [flat_succ 1 (by omega)]
  rfl
/-- A store of a list's only element over a new block leaves the list, wherever it lies. -/
theorem rd_store {w : World} {B n bn : Nat} {A : Option Addr} {l : List Rng} {t : Rng} {T : TypeId} (h : Rd w B 2 A n (rR l)) (hb : w.heap[bn]? = some (.cells #[I 0, I 0] T (0, 0))) (h1 : n = 1 → at0 l 0 = t) : Rd (w.setRow bn #[I t.lo, I t.hi]) B 2 A n (rR l) := fun hn => by
  obtain ⟨b, o, rfl, hbB, hc⟩ := h hn
  refine ⟨b, o, rfl, hbB, fun k hk j hj => ?_⟩
  by_cases hbn : b = bn
  · subst hbn
    have cell : ∀ i v, w.cell? ⟨b, i, none⟩ = some v → i < 2 ∧ v = I 0 := fun i v hv => by
      unfold World.cell? at hv
      rw [hb] at hv
      match i with
      | 0 => simp at hv; exact ⟨by omega, hv.symm⟩
      | 1 => simp at hv; exact ⟨by omega, hv.symm⟩
      | i + 2 => simp at hv
    have c0 := cell _ _ (hc 0 hn 0 (by omega))
    have c1 := cell _ _ (hc 0 hn 1 (by omega))
    have cl := cell _ _ (hc (n - 1) (by omega) 1 (by omega))
    have hn1 : n = 1 := by omega
    have e := h1 hn1
    have e0 : (at0 l 0).lo = 0 := by have : I (at0 l 0).lo = I 0 := c0.2; injection this
    have e1 : (at0 l 0).hi = 0 := by have : I (at0 l 0).hi = I 0 := c1.2; injection this
    rw [e] at e0 e1
    rw [e0, e1, setRow_id hb]
    exact hc k hk j hj
  · rw [World.cell?_of_block (a := ⟨b, o + k * 2 + j, none⟩) (setRow_other (by exact hbn))]
    exact hc k hk j hj
theorem le_one {xs : List Rng} {S : Rng} {c : Rng} (hc : cuF ⟨(addK xs xs.length).1, (addK xs xs.length).2⟩ S = c) (h1 : xs.length = 1) (_ : (at0 xs 0).lo ≤ (at0 xs 0).hi) : leF2 xs c 0 = c := by
  subst hc
  unfold leF2 naF cuF
  rw [h1]
  simp only [addK, Int.zero_add]
  congr 1 <;> omega
theorem tr_bd {xs : List Rng} {tr : Nat → Int} {k : Nat} (hk : k ≤ 12) (h : ∀ j, j < k → okP (at0 xs j) ∧ (at0 xs j).lo ≤ tr j ∧ tr j ≤ (at0 xs j).hi) : -12000000000000 ≤ fs tr k ∧ fs tr k ≤ 12000000000000 := by
  have h1 := fs_le (f := fun _ => -1000000000000) (g := tr) k (fun j hj => by obtain ⟨⟨a, b, c⟩, d, e⟩ := h j hj; show -1000000000000 ≤ tr j; omega)
  have h2 := fs_le (f := tr) (g := fun _ => 1000000000000) k (fun j hj => by obtain ⟨⟨a, b, c⟩, d, e⟩ := h j hj; show tr j ≤ 1000000000000; omega)
  rw [fs_const] at h1 h2
  omega
set_option maxRecDepth 100000 in
set_option maxHeartbeats 8000000 in
theorem unitsBalanced_any (A : Option Addr) (c : Nat) (xs : List Rng) (A2 : Option Addr) (c2 : Nat) (ps : List Int) (s0 s1 : Int) (w : World) (_ : xs.length ≤ c) (_ : c ≤ maxLen) (hx : Rd w w.heap.size 2 A xs.length (rR xs))
    (_ : ∀ j, j < xs.length → (-9223372036854775808 ≤ (at0 xs j).lo ∧ (at0 xs j).lo ≤ 9223372036854775807) ∧ (-9223372036854775808 ≤ (at0 xs j).hi ∧ (at0 xs j).hi ≤ 9223372036854775807))
    (_ : ps.length ≤ c2) (_ : c2 ≤ maxLen) (hp : Rd w w.heap.size 1 A2 ps.length (fun k _ => .int .u16 (at0 ps k))) (hpb : ∀ j, j < ps.length → 0 ≤ at0 ps j ∧ at0 ps j ≤ 65535) (hs : (0 ≤ s0 ∧ s0 ≤ 4294967295) ∧ (0 ≤ s1 ∧ s1 ≤ 4294967295)) :
    Calls Try.prog 9 #[.slice A xs.length c, .slice A2 ps.length c2, .agg #[.int .u32 s0, .int .u32 s1]] w fun e w' => e = .returned (.bool true) ∧ Below w.heap.size w w' := by
  have ck := Lib.hid fun W => known_any W
  obtain ⟨i0, hi0, iz0, iz1, iz2⟩ := info_parts intK_info
  obtain ⟨W, hW⟩ : ∃ W, W = (w.alloc (.cells #[.int .u32 s0, .int .u32 s1] 57)) := ⟨_, rfl⟩
  have rowW0 : W.heap[w.heap.size]? = some (.cells #[.int .u32 s0, .int .u32 s1] 57 (0, 0)) := by rw [hW]; exact heap_last _ _ _ rfl
  have yW00 := ovr_cell (W := W) (b := w.heap.size) (o := 0) (v := .int .u32 s0) (by rw [cell_of_row _ _ _ _ _ _ rowW0]; rfl)
  have yW01 := ovr_cell (W := W) (b := w.heap.size) (o := 1) (v := .int .u32 s1) (by rw [cell_of_row _ _ _ _ _ _ rowW0]; rfl)
  have RrowW0 := Lib.hid (ovr_row rowW0)
  clear rowW0
  have HUW : Hid (∀ u, Below w.heap.size w (ovr W u)) := U1 hW
  have HW := Lib.hid hW
  clear hW
  by_cases hl : 12 < xs.length
  · have hb : decide (12 < (xs.length : Int)) = true := decide_eq_true (by omega)
    clear hx hl hp hpb hs
    go_enter Try.func9, Try.ntmps9
    go_upto_region 1 with (fail)
    rw [← HW.out]
    obtain ⟨u0, hu0⟩ := ovr_self W
    rw [hu0]
    clear hu0
    go_wp2_with fail
    refine (ck.out _).mono ?_
    rintro e w1 ⟨rfl, hb1⟩
    obtain ⟨u1, rfl⟩ := ovr_next hb1
    clear hb1
    go_wp2_with fail
    go_ret
    exact ⟨rfl, HUW.out _⟩
  have hb : decide (12 < (xs.length : Int)) = false := decide_eq_false (by omega)
  have HX : Hid (∀ W', Below w.heap.size w W' → Rd W' w.heap.size 2 A xs.length (rR xs) ∧ Rd W' w.heap.size 1 A2 ps.length (fun k _ => .int .u16 (at0 ps k)) ∧ w.heap.size ≤ W'.heap.size) := fun W' h => ⟨hx.below h, hp.below h, h.size⟩
  have h12 : xs.length ≤ 12 := by omega
  have HPb := Lib.hid hpb
  have HS := Lib.hid hs
  clear hx hl hp hpb hs
  obtain ⟨tr, htr⟩ : ∃ tr, trF xs ps = tr := ⟨_, rfl⟩
  have Htr := Lib.hid htr
  clear htr
  go_enter Try.func9, Try.ntmps9
  go_upto_region 1 with (fail)
  rw [← HW.out]
  obtain ⟨u0, hu0⟩ := ovr_self W
  rw [hu0]
  clear hu0
  go_upto_region 4 with (fail)
  obtain ⟨qb, hqb⟩ : ∃ qb, (ovr W u0).heap.size = qb := ⟨_, rfl⟩
  rw [hqb]
  have hal : Below (ovr W u0).heap.size (ovr W u0) ((ovr W u0).alloc (.cells #[] 3)) := (Below.refl _ _).alloc (Nat.le_refl _) _
  obtain ⟨u1, hu1⟩ := ovr_next hal
  rw [hu1]
  clear hal hu1 hqb
  go_wp2_with fail
  go_loopw [7, 8, 9] (fun s v i wr => ∃ k : Nat, k ≤ xs.length ∧ i = .int .i64 k ∧ s = I (fs tr k) ∧ (∀ j, j < k → okP (at0 xs j) ∧ (at0 xs j).lo ≤ tr j ∧ tr j ≤ (at0 xs j).hi) ∧ SoC 3 1 W.heap.size k (flat 1 (fun j _ => I (tr j)) k) v wr ∧ ∃ u, wr = ovr W u) (fun _ _ i _ => xs.length - (intOf i).toNat)
  case atStart => exact ⟨0, by omega, rfl, rfl, fun j hj => absurd hj (by omega), .inl ⟨rfl, rfl, qb, rfl⟩, u1, rfl⟩
  case round =>
    obtain ⟨k, hk, rfl, rfl, hg, hso, u, rfl⟩ := hrel
    have Hg := Lib.hid hg
    have HSo := Lib.hid hso
    clear hg hso
    by_cases hlt : k < xs.length
    · as_aux_lemma =>
        have hltb : decide ((k : Int) < (xs.length : Int)) = true := decide_eq_true (by omega)
        obtain ⟨b, o, rfl, _, e0, e1⟩ := (HX.out _ (HUW.out u)).1.rng hlt
        have f0 := ovr_cell e0
        have f1 := ovr_cell e1
        obtain ⟨r, hr⟩ : ∃ r, at0 xs k = r := ⟨_, rfl⟩
        rw [hr] at e0 e1 f0 f1
        have Hr := Lib.hid hr
        clear hr
        rcases d1 : decide (r.hi < r.lo) with _ | _ <;> rcases d2 : decide (r.lo < -1000000000000) with _ | _ <;> rcases d3 : decide (1000000000000 < r.hi) with _ | _
        case false.false.false => as_aux_lemma =>
          have hok : Hid (okP r) := ⟨Int.not_lt.1 (of_decide_eq_false d1), Int.not_lt.1 (of_decide_eq_false d2), Int.not_lt.1 (of_decide_eq_false d3)⟩
          go_upto_region 7 with (fail)
          refine wp_region_below_lit (by kernel_rfl) (by kernel_rfl) ?_
          repeat (go_big_quiet_step (fail))
          refine wpQuiet_nil ?_
          intro w1 hb1
          obtain ⟨u2, rfl⟩ := ovr_next hb1
          have hso := HSo.out.over hb1
          have HSo2 := Lib.hid hso
          clear hb1 hso HSo e0 e1 d1 d2 d3 f0 f1
          obtain ⟨b', o', hA, _, e0, e1⟩ := (HX.out _ (HUW.out u2)).1.rng hlt
          (injection hA with ea; injection ea with ea1 ea2; subst ea1 ea2)
          rw [Hr.out] at e0 e1
          have hpl : tr k = plF r (if k < ps.length then at0 ps k else 0) := by rw [← Htr.out]; show plF (at0 xs k) _ = _; rw [Hr.out]
          by_cases hkp : k < ps.length
          · obtain ⟨b2, o2, rfl, _, pc⟩ := (HX.out _ (HUW.out u2)).2.1 (by omega)
            have p0 := pc k hkp 0 (by omega)
            rw [Nat.mul_one, Nat.add_zero] at p0
            rw [if_pos hkp] at hpl
            have hkb : decide ((k : Int) < (ps.length : Int)) = true := decide_eq_true (by omega)
            have hkb2 : decide (k < ps.length) = true := decide_eq_true hkp
            have cp : Hid (∀ W', Calls Try.prog 37 #[r.val, .int .u16 (at0 ps k)] W' fun e w' => e = .returned (I (tr k)) ∧ Below W'.heap.size W' w') := fun W' => by rw [hpl]; exact place_any r (at0 ps k) W' (HPb.out k hkp)
            have htk : Hid (r.lo ≤ tr k ∧ tr k ≤ r.hi) := by show _ ∧ _; rw [hpl]; exact plF_in (HPb.out k hkp).1 hok.out.1
            clear hpl pc
            go_wp2_with fail
            refine (cp.out _).mono ?_
            rintro e w1 ⟨rfl, hb1⟩
            have hso := HSo2.out.over hb1
            obtain ⟨u3, rfl⟩ := ovr_next hb1
            have HSo3 := Lib.hid (hso.over ((Below.refl _ _).alloc (Nat.le_refl _) (.cells #[I (tr k)] 3)))
            have hwz := (ovr_below W u3).size
            clear hb1 hso e0 e1 cp
            go_wp2_with (at_builtin; go_loud (refine wpList_app_soc rfl _ _ 30 rfl 3 i0 _ 1 8 Try.underlying30 hi0 iz0 iz1 iz2 rfl (by decide) W.heap.size k (flat 1 (fun j _ => I (tr j)) k) _ rfl HSo3.out ⟨(ovr W u3).heap.size, 0, none⟩ 1 [I (tr k)] rfl rfl (news_lit (cs := #[I (tr k)]) (heap_last _ _ _ rfl)) (by simp [Value.oneCell']) (by simp; omega) (by omega) (by decide) ?_))
            intro v' w2 hso2 hb2
            have hso3 : SoC 3 1 W.heap.size (k + 1) (flat 1 (fun j _ => I (tr j)) (k + 1)) v' w2 := by rw [flat_t]; exact hso2
            have hb4 : Below W.heap.size W w2 := ((ovr_below W u3).alloc hwz _).trans hb2
            obtain ⟨A3, c3, rfl, _, _, hr3⟩ := hso3.rd
            obtain ⟨b3, o3, rfl, _, tc⟩ := hr3 (by omega)
            have t0 := tc k (by omega) 0 (by omega)
            rw [Nat.mul_one, Nat.add_zero] at t0
            have Hso3 := Lib.hid hso3
            obtain ⟨u4, rfl⟩ : ∃ u, w2 = ovr W u := ⟨w2, ovr_of hb4⟩
            have hn : Hid (∀ j, j < k + 1 → okP (at0 xs j) ∧ (at0 xs j).lo ≤ tr j ∧ tr j ≤ (at0 xs j).hi) := succ_case Hg.out (by rw [Hr.out]; exact ⟨hok.out, htk.out⟩)
            have c1 : IntKind.i64.wrap (fs tr k + tr k) = fs tr (k + 1) := by
              have := tr_bd (by omega) hn.out
              exact IntWalk.i64_in _ (by simp only [fs] at this; omega)
            clear hso2 hb2 hb4 hso3 hr3 tc hwz
            go_wp2_with fail
            go_roundw
            case rel => exact ⟨k + 1, by omega, by go_num, rfl, hn.out, Hso3.out, u4, rfl⟩
            case measure => simp [intOf]; omega
          · rw [if_neg hkp] at hpl
            have hkb : decide ((k : Int) < (ps.length : Int)) = false := decide_eq_false (by omega)
            have hkb2 : decide (k < ps.length) = false := decide_eq_false hkp
            have cp : Hid (∀ W', Calls Try.prog 37 #[r.val, .int .u16 0] W' fun e w' => e = .returned (I (tr k)) ∧ Below W'.heap.size W' w') := fun W' => by rw [hpl]; exact place_any r 0 W' (by omega)
            have htk : Hid (r.lo ≤ tr k ∧ tr k ≤ r.hi) := by show _ ∧ _; rw [hpl]; exact plF_in (Int.le_refl 0) hok.out.1
            clear hpl
            go_wp2_with fail
            refine (cp.out _).mono ?_
            rintro e w1 ⟨rfl, hb1⟩
            have hso := HSo2.out.over hb1
            obtain ⟨u3, rfl⟩ := ovr_next hb1
            have HSo3 := Lib.hid (hso.over ((Below.refl _ _).alloc (Nat.le_refl _) (.cells #[I (tr k)] 3)))
            have hwz := (ovr_below W u3).size
            clear hb1 hso e0 e1 cp
            go_wp2_with (at_builtin; go_loud (refine wpList_app_soc rfl _ _ 30 rfl 3 i0 _ 1 8 Try.underlying30 hi0 iz0 iz1 iz2 rfl (by decide) W.heap.size k (flat 1 (fun j _ => I (tr j)) k) _ rfl HSo3.out ⟨(ovr W u3).heap.size, 0, none⟩ 1 [I (tr k)] rfl rfl (news_lit (cs := #[I (tr k)]) (heap_last _ _ _ rfl)) (by simp [Value.oneCell']) (by simp; omega) (by omega) (by decide) ?_))
            intro v' w2 hso2 hb2
            have hso3 : SoC 3 1 W.heap.size (k + 1) (flat 1 (fun j _ => I (tr j)) (k + 1)) v' w2 := by rw [flat_t]; exact hso2
            have hb4 : Below W.heap.size W w2 := ((ovr_below W u3).alloc hwz _).trans hb2
            obtain ⟨A3, c3, rfl, _, _, hr3⟩ := hso3.rd
            obtain ⟨b3, o3, rfl, _, tc⟩ := hr3 (by omega)
            have t0 := tc k (by omega) 0 (by omega)
            rw [Nat.mul_one, Nat.add_zero] at t0
            have Hso3 := Lib.hid hso3
            obtain ⟨u4, rfl⟩ : ∃ u, w2 = ovr W u := ⟨w2, ovr_of hb4⟩
            have hn : Hid (∀ j, j < k + 1 → okP (at0 xs j) ∧ (at0 xs j).lo ≤ tr j ∧ tr j ≤ (at0 xs j).hi) := succ_case Hg.out (by rw [Hr.out]; exact ⟨hok.out, htk.out⟩)
            have c1 : IntKind.i64.wrap (fs tr k + tr k) = fs tr (k + 1) := by
              have := tr_bd (by omega) hn.out
              exact IntWalk.i64_in _ (by simp only [fs] at this; omega)
            clear hso2 hb2 hb4 hso3 hr3 tc hwz
            go_wp2_with fail
            go_roundw
            case rel => exact ⟨k + 1, by omega, by go_num, rfl, hn.out, Hso3.out, u4, rfl⟩
            case measure => simp [intOf]; omega
        all_goals
          go_upto_region 7 with (fail)
          refine wp_region_below_lit (by kernel_rfl) (by kernel_rfl) ?_
          repeat (go_big_quiet_step (fail))
          refine wpQuiet_nil ?_
          intro w1 hb1
          obtain ⟨u2, rfl⟩ := ovr_next hb1
          clear hb1 e0 e1 f0 f1 d1 d2 d3
          go_wp2_with fail
          refine (ck.out _).mono ?_
          rintro e w1 ⟨rfl, hb1⟩
          obtain ⟨u3, rfl⟩ := ovr_next hb1
          clear hb1
          go_wp2_with fail
          go_ret
          exact ⟨rfl, HUW.out _⟩
    · as_aux_lemma =>
        obtain rfl : k = xs.length := by omega
        have hltb : decide ((xs.length : Int) < (xs.length : Int)) = false := decide_eq_false (by omega)
        obtain ⟨T, hT⟩ : ∃ T, fs tr xs.length = T := ⟨_, rfl⟩
        have hbd := tr_bd h12 Hg.out
        rw [hT] at hbd
        have hs := HS.out
        have hin : BaIn xs tr ⟨T - s0, T + s1⟩ := ⟨h12, fun j hj => (Hg.out j hj).1, fun j hj => (Hg.out j hj).2, by rw [hT]; simp only; omega, by rw [hT]; simp only; omega⟩
        obtain ⟨⟨cl, ch⟩, hcut⟩ : ∃ c, cuF ⟨(addK xs xs.length).1, (addK xs xs.length).2⟩ ⟨T - s0, T + s1⟩ = c := ⟨_, rfl⟩
        obtain ⟨l, hl⟩ : ∃ l, mk (naF (addK xs xs.length).1 (addK xs xs.length).2 ⟨cl, ch⟩) xs xs.length = l := ⟨_, rfl⟩
        have hll : l.length = xs.length := by rw [← hl, mk_len]
        have hla : ∀ j, j < xs.length → at0 l j = leF2 xs ⟨cl, ch⟩ j := fun j hj => by rw [← hl, mk_at _ _ hj]; rfl
        have h1 := hin.first hcut
        have h2 := hin.again hcut
        rw [hl] at h1 h2
        have hcl : cl = max (addK xs xs.length).1 (T - s0) ∧ ch = min (addK xs xs.length).2 (T + s1) := by unfold cuF at hcut; injection hcut with e1 e2; exact ⟨e1.symm, e2.symm⟩
        have hlh := hin.lh xs.length (Nat.le_refl _)
        rw [hT] at hlh
        have hco := Lib.hid fun k (hk : k < xs.length) => hin.one hcut hk
        obtain ⟨A3, c3, rfl, _, _, hr3⟩ := HSo.out.rd
        have w1 : IntKind.i64.wrap s0 = s0 := IntWalk.i64_in _ (by omega)
        have w2 : IntKind.i64.wrap s1 = s1 := IntWalk.i64_in _ (by omega)
        have w3 : IntKind.i64.wrap (T - s0) = T - s0 := IntWalk.i64_in _ (by omega)
        have w4 : IntKind.i64.wrap (T + s1) = T + s1 := IntWalk.i64_in _ (by omega)
        have HR3 := Lib.hid hr3
        have Hin := Lib.hid hin
        have HT := Lib.hid hT
        have hl1 : Hid (l.length = 1 → at0 l 0 = ⟨cl, ch⟩) := fun h => by
          rw [hll] at h
          rw [hla 0 (by omega)]
          exact le_one hcut h (hin.ok 0 (by omega)).1
        have Hll := Lib.hid hll
        have Hla := Lib.hid hla
        have Hcl := Lib.hid hcl
        have Hlh := Lib.hid hlh
        have Hbd := Lib.hid hbd
        have B1 := Lib.hid h1
        have B2 := Lib.hid h2
        rw [hT]
        clear hT hbd hs hin hcut hl hll hla h1 h2 hcl hlh hr3 HSo
        go_upto_region 15 with (refine wpList_store_fresh rfl 38 _ _ rfl #[I 0, I 0] 38 rfl #[I (T - s0), I (T + s1)] rfl (one2 rfl rfl) rfl (by kernel_rfl) ?_)
        obtain ⟨V1, hV1⟩ : ∃ V1, V1 = ((ovr W u).alloc (.cells #[I (T - s0), I (T + s1)] 38)) := ⟨_, rfl⟩
        have reV1 : ∀ v, ∃ x, ovr V1 v = ovr W x := fun v => ovr_re1 hV1
        replace yW00 := tr_cell reV1 yW00
        replace yW01 := tr_cell reV1 yW01
        replace RrowW0 := Lib.hid (tr_row reV1 RrowW0.out)
        have rowV10 : V1.heap[(ovr W u).heap.size]? = some (.cells #[I (T - s0), I (T + s1)] 38 (0, 0)) := by rw [hV1]; exact heap_last _ _ _ rfl
        have yV100 := ovr_cell (W := V1) (b := (ovr W u).heap.size) (o := 0) (v := I (T - s0)) (by rw [cell_of_row _ _ _ _ _ _ rowV10]; rfl)
        have yV101 := ovr_cell (W := V1) (b := (ovr W u).heap.size) (o := 1) (v := I (T + s1)) (by rw [cell_of_row _ _ _ _ _ _ rowV10]; rfl)
        have RrowV10 := Lib.hid (ovr_row rowV10)
        clear rowV10
        have HBV1 : Hid (∀ u, Below W.heap.size W (ovr V1 u)) := fun u => by obtain ⟨x, hx⟩ := reV1 u; rw [hx]; exact ovr_below _ _
        have HUV1 : Hid (∀ u, Below w.heap.size w (ovr V1 u)) := fun u => by obtain ⟨x, hx⟩ := reV1 u; rw [hx]; exact HUW.out x
        clear reV1
        have HV1 := Lib.hid hV1
        clear hV1
        have HR4 : Hid (Rd V1 V1.heap.size 1 A3 xs.length (fun j _ => I (tr j))) := by show Rd _ _ _ _ _ _; rw [HV1.out]; exact (HR3.out.alloc (Nat.le_refl _) _).more (by simp)
        rw [← HV1.out]
        have HwV : Hid (∀ W', Le V1 W' → Below w.heap.size w W') := fun W' h => (below_self HUV1.out).trans (h.mono (below_self HUV1.out).size)
        have co : Hid (∀ W', Le V1 W' → Calls Try.prog 27 #[.slice A xs.length c] W' (RetLc W' 2 xs.length (rR xs))) := fun W' h => ownRanges_any A xs.length c (rR xs) W' w.heap.size (by omega) (HX.out W' (HwV.out W' h)).2.2 (HX.out W' (HwV.out W' h)).1
        have cb : Hid (∀ W' A' c', Rd W' W'.heap.size 2 A' xs.length (rR xs) → Calls Try.prog 28 #[.slice A' xs.length c', (⟨T - s0, T + s1⟩ : Rng).val] W' (RetB W' (l, ⟨cl, ch⟩, 0))) := fun W' A' c' h => by
          have := balance_any A' xs.length c' xs ⟨T - s0, T + s1⟩ W' W'.heap.size rfl (by unfold maxLen; omega) (Nat.le_refl _) h
          rwa [B1.out] at this
        refine wp_region_make_two (fun j => if j = 1 then some (SlO 2 xs.length (rR xs)) else if j = 3 then some (SlB l ⟨cl, ch⟩ 0) else if j = 8 then some (NewAt V1 #[I 0, I 0] 38) else none) [7] (by kernel_rfl) (by kernel_rfl) (by kernel_rfl) (by kernel_rfl) (by kernel_rfl) (by intro i hi; simp at hi; subst hi; rfl) ⟨rfl, rfl⟩ (fun c a d v w h => by cases d <;> exact h) ?_
        simp only [sleepTwo_cons, sleepTwo_two]
        simp only [Act.put]
        repeat (refine wpG_one rfl rfl rfl ?_; intro K hK; go_big_quiet_op; go_big_quiet_on)
        refine wpG_make (SlO 2 xs.length (rR xs)) rfl rfl (fun w' hw' _ => ?_) (fun u hu => ?_)
        · go_simp
          exact own_growO (co.out w' hw'.le)
        obtain ⟨_, _, A4, d4, rfl, _, _, _⟩ := hu
        simp only [Act.put, List.setIfInBounds_toArray, List.set_cons_zero, List.set_cons_succ]
        repeat (refine wpG_one rfl rfl rfl ?_; intro K hK; go_big_quiet_op; go_big_quiet_on)
        refine wpG_make (SlB l ⟨cl, ch⟩ 0) rfl rfl (fun w' hw' hk => ?_) (fun u hu => ?_)
        · have hk1 := hk ⟨1, .data⟩ (by simp) rfl _ _ _ rfl rfl rfl (by simp) rfl
          obtain ⟨E, e, he, _, _, hr⟩ := hk1.now
          obtain ⟨rfl, _, rfl⟩ : A4 = E ∧ xs.length = xs.length ∧ d4 = e := by injection he with h1 h2 h3; exact ⟨h1, rfl, h3⟩
          go_simp
          exact retB_growO (cb.out w' _ _ hr)
        obtain ⟨_, _, A5, d5, rfl, _⟩ := hu
        simp only [Act.put, List.setIfInBounds_toArray, List.set_cons_zero, List.set_cons_succ]
        repeat (refine wpG_one rfl rfl rfl ?_; intro K hK; go_big_quiet_op; go_big_quiet_on)
        refine wpG_make (NewAt V1 #[I 0, I 0] 38) rfl rfl (fun w' hw' _ => ?_) (fun u hu => ?_)
        · go_simp
          exact new_grow hw'
        obtain ⟨_, _, bn, rfl, _, _⟩ := hu
        simp only [Act.put, List.setIfInBounds_toArray, List.set_cons_zero, List.set_cons_succ]
        repeat (refine wpG_one rfl rfl rfl ?_; intro K hK; go_big_quiet_op; go_big_quiet_on)
        refine wpG_nil (fun w5 hw5 hG => ?_)
        have hn := (Box.now hG.2).at
        have hr5 := rd_store (Box.now hG.1.2).at hn.1 hl1.out
        clear hG
        intro s t' hs ht'
        obtain rfl := Option.some.inj hs
        obtain rfl := Option.some.inj ht'
        clear hs ht'
        refine wp_store_row 38 _ _ rfl bn rfl _ _ hn.1 #[I cl, I ch] rfl (one2 rfl rfl) rfl (by kernel_rfl) ?_
        refine ⟨hw5.set hn.2 _, ?_⟩
        refine wp_assign _ (I 0) rfl rfl ?_
        refine ⟨hw5.set hn.2 _, ?_⟩
        simp only [Act.put, List.setIfInBounds_toArray, List.set_cons_zero, List.set_cons_succ]
        obtain ⟨Z, hZ⟩ : ∃ Z, Z = w5.setRow bn #[I cl, I ch] := ⟨_, rfl⟩
        have rZ : Z.heap[bn]? = some (.cells #[I cl, I ch] 38 (0, 0)) := by rw [hZ]; exact setRow_same hn.1
        have hbZ : Below V1.heap.size V1 Z := by rw [hZ]; exact below_setRow hw5.le hn.2 _
        have hr6 : Rd Z Z.heap.size 2 A5 xs.length (rR l) := by rw [Hll.out] at hr5; rw [hZ]; exact hr5.more (by rw [setRow_size]; exact Nat.le_refl _)
        have HbZ := Lib.hid hbZ
        rw [← hZ, Hll.out]
        clear hZ hn hw5 hr5 co cb
        have reZ : ∀ v, ∃ x, ovr Z v = ovr V1 x := fun v => ovr_reB hbZ v
        replace yW00 := tr_cell reZ yW00
        replace yW01 := tr_cell reZ yW01
        replace RrowW0 := Lib.hid (tr_row reZ RrowW0.out)
        replace yV100 := tr_cell reZ yV100
        replace yV101 := tr_cell reZ yV101
        replace RrowV10 := Lib.hid (tr_row reZ RrowV10.out)
        have yZ00 := ovr_cell (W := Z) (b := bn) (o := 0) (v := I cl) (by rw [cell_of_row _ _ _ _ _ _ rZ]; rfl)
        have yZ01 := ovr_cell (W := Z) (b := bn) (o := 1) (v := I ch) (by rw [cell_of_row _ _ _ _ _ _ rZ]; rfl)
        have RrowZ0 := Lib.hid (ovr_row rZ)
        clear rZ
        have HUZ : Hid (∀ u, Below w.heap.size w (ovr Z u)) := fun u => by obtain ⟨x, hx⟩ := reZ u; rw [hx]; exact HUV1.out x
        clear reZ hbZ
        have HXZ : Hid (∀ u, Rd (ovr Z u) w.heap.size 2 A xs.length (rR xs) ∧ Rd (ovr Z u) V1.heap.size 1 A3 xs.length (fun j _ => I (tr j)) ∧ Rd (ovr Z u) Z.heap.size 2 A5 xs.length (rR l)) := fun u =>
          ⟨(HX.out _ (HUZ.out u)).1, HR4.out.below (HbZ.out.trans ((ovr_below Z u).mono HbZ.out.size)), hr6.below (ovr_below Z u)⟩
        have Hr6 := Lib.hid hr6
        clear hr6
        obtain ⟨L, hL⟩ : ∃ L, (addK xs xs.length).1 = L := ⟨_, rfl⟩
        obtain ⟨H, hH⟩ : ∃ H, (addK xs xs.length).2 = H := ⟨_, rfl⟩
        rw [hL, hH] at Hcl Hlh hco
        have HL := Lib.hid hL
        have HH := Lib.hid hH
        clear hL hH
        have hcl := Hcl.out
        have hlh := Hlh.out
        have hs := HS.out
        have g1 : decide (T < cl) = false := decide_eq_false (by omega)
        have g2 : decide (ch < T) = false := decide_eq_false (by omega)
        have nn : ((xs.length : Int) != (xs.length : Int)) = false := by simp
        have ci : Hid (∀ W', Calls Try.prog 38 #[(⟨cl, ch⟩ : Rng).val, (⟨T - s0, T + s1⟩ : Rng).val] W' fun e w' => e = .returned (.bool true) ∧ Below W'.heap.size W' w') := fun W' => by
          have := inside_any ⟨cl, ch⟩ ⟨T - s0, T + s1⟩ W'
          rwa [insB_iff.2 (by simp only; omega)] at this
        clear hcl hlh hs
        obtain ⟨u3, hu3⟩ := ovr_self Z
        rw [hu3]
        clear hu3
        go_wp2_with fail
        refine (ci.out _).mono ?_
        rintro e w1 ⟨rfl, hb1⟩
        obtain ⟨u4, rfl⟩ := ovr_next hb1
        clear hb1
        go_wp2_with fail
        go_loopw [15, 16, 17] (fun a b i wr => ∃ k : Nat, k ≤ xs.length ∧ i = .int .i64 k ∧ a = I (addK xs k).1 ∧ b = I (addK xs k).2 ∧ ∃ u, wr = ovr Z u) (fun _ _ i _ => xs.length - (intOf i).toNat)
        case atStart => exact ⟨0, by omega, rfl, rfl, rfl, u4, rfl⟩
        case round =>
          obtain ⟨k, hk, rfl, rfl, rfl, u5, rfl⟩ := hrel
          by_cases hlt : k < xs.length
          · as_aux_lemma =>
              have hltb : decide ((k : Int) < (xs.length : Int)) = true := decide_eq_true (by omega)
              obtain ⟨q1, q2, q3⟩ := HXZ.out u5
              obtain ⟨b, o, rfl, _, e0, e1⟩ := q1.rng hlt
              obtain ⟨b2, o2, rfl, _, tc⟩ := q2 (by omega)
              have t0 : (ovr Z u5).cell? ⟨b2, o2 + k * 1 + 0, none⟩ = some (I (tr k)) := tc k hlt 0 (by omega)
              rw [Nat.mul_one, Nat.add_zero] at t0
              obtain ⟨b3, o3, rfl, _, m0, m1⟩ := q3.rng hlt
              have ho := hco.out k hlt
              rw [← Hla.out k hlt] at ho
              have hk1 : Hid (addK xs (k + 1) = ((addK xs k).1 + (at0 xs k).lo, (addK xs k).2 + (at0 xs k).hi)) := rfl
              have hb1 := Hin.out.lh (k + 1) hlt
              rw [hk1.out] at hb1
              obtain ⟨r, hrk⟩ : ∃ r, at0 xs k = r := ⟨_, rfl⟩
              rw [hrk] at e0 e1 ho hb1 hk1
              have Hrk := Lib.hid hrk
              clear hrk
              generalize at0 l k = p at *
              generalize tr k = t at *
              generalize addK xs k = q at *
              have c1 : IntKind.i64.wrap (q.1 + r.lo) = q.1 + r.lo := IntWalk.i64_in _ (by simp only at hb1; omega)
              have c2 : IntKind.i64.wrap (q.2 + r.hi) = q.2 + r.hi := IntWalk.i64_in _ (by simp only at hb1; omega)
              have j1 : decide (t < p.lo) = false := decide_eq_false (by omega)
              have j2 : decide (p.hi < t) = false := decide_eq_false (by omega)
              have cq : Hid (∀ W', Calls Try.prog 38 #[p.val, r.val] W' fun e w' => e = .returned (.bool true) ∧ Below W'.heap.size W' w') := fun W' => by
                have := inside_any p r W'
                rwa [insB_iff.2 ⟨ho.1.1, ho.1.2.1, ho.1.2.2⟩] at this
              have f0 := ovr_cell e0
              have f1 := ovr_cell e1
              have f2 := ovr_cell t0
              have f3 := ovr_cell m0
              have f4 := ovr_cell m1
              clear ho hb1 tc q1 q2 q3
              go_upto_region 22 with (fail)
              refine wp_region_below_lit (by kernel_rfl) (by kernel_rfl) ?_
              repeat (go_big_quiet_step (exact call_below (cq.out _)))
              refine wpQuiet_nil ?_
              intro w1 hb1
              clear f0 f1 f2 f3 f4 e0 e1 t0 m0 m1
              obtain ⟨u6, rfl⟩ := ovr_next hb1
              clear hb1
              go_upto_region 24 with (fail)
              obtain ⟨b', o', hA, _, e0, e1⟩ := (HXZ.out u6).1.rng hlt
              (injection hA with ea; injection ea with ea1 ea2; subst ea1 ea2)
              have hrr : at0 xs k = r := Hrk.out
              rw [hrr] at e0 e1
              have f0 := ovr_cell e0
              have f1 := ovr_cell e1
              clear hrr
              refine wp_region_below_lit (by kernel_rfl) (by kernel_rfl) ?_
              repeat (go_big_quiet_step (fail))
              refine wpQuiet_nil ?_
              intro w1 hb1
              clear f0 f1 e0 e1
              obtain ⟨u7, rfl⟩ := ovr_next hb1
              clear hb1
              go_wp2_with fail
              go_roundw
              case rel => exact ⟨k + 1, by omega, by go_num, by rw [hk1.out], by rw [hk1.out], u7, rfl⟩
              case measure => simp [intOf]; omega
          · as_aux_lemma =>
              obtain rfl : k = xs.length := by omega
              have hltb : decide ((xs.length : Int) < (xs.length : Int)) = false := decide_eq_false (by omega)
              rw [HL.out, HH.out]
              go_wp2_with fail
              go_loopw [18] (fun i wr => ∃ k : Nat, k ≤ xs.length ∧ i = .int .i64 k ∧ ∃ u, wr = ovr Z u) (fun i _ => xs.length - (intOf i).toNat)
              case atStart => exact ⟨0, by omega, rfl, u5, rfl⟩
              case round =>
                obtain ⟨k, hk, rfl, u6, rfl⟩ := hrel
                by_cases hlt : k < xs.length
                · as_aux_lemma =>
                    have hltb : decide ((k : Int) < (xs.length : Int)) = true := decide_eq_true (by omega)
                    obtain ⟨q1, _, q3⟩ := HXZ.out u6
                    obtain ⟨b, o, rfl, _, e0, e1⟩ := q1.rng hlt
                    obtain ⟨b3, o3, rfl, _, m0, m1⟩ := q3.rng hlt
                    have ho := hco.out k hlt
                    have hok := Hin.out.ok k hlt
                    have hsm := HS.out
                    have hlh := Hlh.out
                    rw [← Hla.out k hlt] at ho
                    have HE : Hid (∀ u, (ovr Z u).cell? ⟨b, o + k * 2, none⟩ = some (I (at0 xs k).lo) ∧ (ovr Z u).cell? ⟨b, o + k * 2 + 1, none⟩ = some (I (at0 xs k).hi) ∧ (ovr Z u).cell? ⟨b3, o3 + k * 2, none⟩ = some (I (at0 l k).lo) ∧ (ovr Z u).cell? ⟨b3, o3 + k * 2 + 1, none⟩ = some (I (at0 l k).hi)) := fun u => by
                      obtain ⟨q1, _, q3⟩ := HXZ.out u
                      obtain ⟨b', o', hA, _, e0, e1⟩ := q1.rng hlt
                      (injection hA with ea; injection ea with ea1 ea2; subst ea1 ea2)
                      obtain ⟨b', o', hA, _, m0, m1⟩ := q3.rng hlt
                      (injection hA with ea; injection ea with ea1 ea2; subst ea1 ea2)
                      exact ⟨e0, e1, m0, m1⟩
                    clear e0 e1 m0 m1 q1 q3
                    generalize at0 xs k = r at *
                    generalize at0 l k = p at *
                    generalize tr k = t at *
                    obtain ⟨a, ha⟩ : ∃ a, H - r.hi = a := ⟨_, rfl⟩
                    obtain ⟨d, hd⟩ : ∃ d, L - r.lo = d := ⟨_, rfl⟩
                    rw [ha, hd] at ho
                    obtain ⟨⟨o1, o2, o3'⟩, _, ⟨o4, o5, o6, o7⟩, o8, o9⟩ := ho
                    have v1 : IntKind.i64.wrap (H - r.hi) = a := by rw [← ha]; exact IntWalk.i64_in _ (by omega)
                    have v2 : IntKind.i64.wrap (L - r.lo) = d := by rw [← hd]; exact IntWalk.i64_in _ (by omega)
                    have v3 : IntKind.i64.wrap (p.lo + a) = p.lo + a := IntWalk.i64_in _ (by omega)
                    have v4 : IntKind.i64.wrap (p.lo + d) = p.lo + d := IntWalk.i64_in _ (by omega)
                    have v5 : IntKind.i64.wrap (p.hi + d) = p.hi + d := IntWalk.i64_in _ (by omega)
                    have v6 : IntKind.i64.wrap (p.hi + a) = p.hi + a := IntWalk.i64_in _ (by omega)
                    have v7 : IntKind.i64.wrap (p.lo - 1) = p.lo - 1 := IntWalk.i64_in _ (by omega)
                    have v8 : IntKind.i64.wrap (p.lo - 1 + a) = p.lo - 1 + a := IntWalk.i64_in _ (by omega)
                    have v9 : IntKind.i64.wrap (p.hi + 1) = p.hi + 1 := IntWalk.i64_in _ (by omega)
                    have v10 : IntKind.i64.wrap (p.hi + 1 + d) = p.hi + 1 + d := IntWalk.i64_in _ (by omega)
                    have j1 : decide (p.lo + a < T - s0) = false := decide_eq_false (by omega)
                    have j2 : decide (T + s1 < p.lo + d) = false := decide_eq_false (by omega)
                    have j3 : decide (T + s1 < p.hi + d) = false := decide_eq_false (by omega)
                    have j4 : decide (p.hi + a < T - s0) = false := decide_eq_false (by omega)
                    have j5 : decide (r.lo < p.lo) = true → decide (T - s0 ≤ p.lo - 1 + a) = false := fun h => decide_eq_false (by have := o8 (of_decide_eq_true h); omega)
                    have j6 : decide (p.hi < r.hi) = true → decide (p.hi + 1 + d ≤ T + s1) = false := fun h => decide_eq_false (by have := o9 (of_decide_eq_true h); omega)
                    have J5 := Lib.hid j5
                    have J6 := Lib.hid j6
                    clear hok hsm hlh o1 o2 o3' o4 o5 o6 o7 o8 o9 ha hd j5 j6
                    go_upto_region 28 with (fail)
                    have f0 := ovr_cell (HE.out u6).1
                    have f1 := ovr_cell (HE.out u6).2.1
                    refine wp_region_below_lit (by kernel_rfl) (by kernel_rfl) ?_
                    repeat (go_big_quiet_step (fail))
                    refine wpQuiet_nil ?_
                    intro w1 hb1
                    clear f0 f1
                    obtain ⟨u7, rfl⟩ := ovr_next hb1
                    clear hb1
                    go_upto_region 29 with (fail)
                    have f0 := ovr_cell (HE.out u7).1
                    have f1 := ovr_cell (HE.out u7).2.1
                    have f2 := ovr_cell (HE.out u7).2.2.1
                    have f3 := ovr_cell (HE.out u7).2.2.2
                    have y0 := ovr_cell (yV100 u7)
                    have y1 := ovr_cell (yV101 u7)
                    refine wp_region_below_lit (by kernel_rfl) (by kernel_rfl) ?_
                    repeat (go_big_quiet_step (fail))
                    refine wpQuiet_nil ?_
                    intro w1 hb1
                    clear f0 f1 f2 f3 y0 y1
                    obtain ⟨u8, rfl⟩ := ovr_next hb1
                    clear hb1
                    go_upto_region 31 with (fail)
                    have f0 := ovr_cell (HE.out u8).1
                    have f1 := ovr_cell (HE.out u8).2.1
                    have f2 := ovr_cell (HE.out u8).2.2.1
                    have f3 := ovr_cell (HE.out u8).2.2.2
                    have y0 := ovr_cell (yV100 u8)
                    have y1 := ovr_cell (yV101 u8)
                    rcases b1 : decide (r.lo < p.lo) with _ | _ <;> rcases b2 : decide (p.hi < r.hi) with _ | _
                    all_goals
                      first
                        | have j7 := J5.out b1
                        | skip
                      first
                        | have j8 := J6.out b2
                        | skip
                      refine wp_region_below_lit (by kernel_rfl) (by kernel_rfl) ?_
                      repeat (go_big_quiet_step (fail))
                      refine wpQuiet_nil ?_
                      intro w1 hb1
                      clear f0 f1 f2 f3 y0 y1
                      obtain ⟨u9, rfl⟩ := ovr_next hb1
                      clear hb1
                      go_wp2_with fail
                      go_roundw
                      case rel => exact ⟨k + 1, by omega, by go_num, u9, rfl⟩
                      case measure => simp [intOf]; omega
                · as_aux_lemma =>
                    obtain rfl : k = xs.length := by omega
                    have hltb : decide ((xs.length : Int) < (xs.length : Int)) = false := decide_eq_false (by omega)
                    go_upto_region 33 with (fail)
                    have hbY0 := ovr_below Z u6
                    obtain ⟨Y0, hY0⟩ : ∃ Y0, Y0 = ovr Z u6 := ⟨_, rfl⟩
                    rw [← hY0] at hbY0
                    rw [← hY0]
                    have hY0' := Lib.hid hY0
                    clear hY0
                    have hbY0' := Lib.hid hbY0
                    have reY0 : ∀ v, ∃ x, ovr Y0 v = ovr Z x := fun v => ovr_reB hbY0 v
                    replace yW00 := tr_cell reY0 yW00
                    replace yW01 := tr_cell reY0 yW01
                    replace RrowW0 := Lib.hid (tr_row reY0 RrowW0.out)
                    replace yV100 := tr_cell reY0 yV100
                    replace yV101 := tr_cell reY0 yV101
                    replace RrowV10 := Lib.hid (tr_row reY0 RrowV10.out)
                    replace yZ00 := tr_cell reY0 yZ00
                    replace yZ01 := tr_cell reY0 yZ01
                    replace RrowZ0 := Lib.hid (tr_row reY0 RrowZ0.out)
                    have HUY0 : Hid (∀ u, Below w.heap.size w (ovr Y0 u)) := fun u => by obtain ⟨x, hx⟩ := reY0 u; rw [hx]; exact HUZ.out x
                    clear reY0 hbY0
                    have HwY : Hid (∀ W', Le Y0 W' → Below Z.heap.size Z W') := fun W' h => hbY0'.out.trans (h.mono hbY0'.out.size)
                    have co : Hid (∀ W', Le Y0 W' → Calls Try.prog 27 #[.slice A5 xs.length d5] W' (RetLc W' 2 xs.length (rR l))) := fun W' h => ownRanges_any A5 xs.length d5 (rR l) W' Z.heap.size (by omega) (HwY.out W' h).size (Hr6.out.below (HwY.out W' h))
                    have cb : Hid (∀ W' A' c', Rd W' W'.heap.size 2 A' xs.length (rR l) → Calls Try.prog 28 #[.slice A' xs.length c', (⟨cl, ch⟩ : Rng).val] W' (RetB W' (l, ⟨cl, ch⟩, 0))) := fun W' A' c' h => by
                      have := balance_any A' xs.length c' l ⟨cl, ch⟩ W' W'.heap.size Hll.out.symm (by unfold maxLen; omega) (Nat.le_refl _) h
                      rwa [B2.out] at this
                    refine wp_region_make_two (fun j => if j = 1 then some (SlO 2 xs.length (rR l)) else if j = 3 then some (SlB l ⟨cl, ch⟩ 0) else if j = 8 then some (NewAt Y0 #[I 0, I 0] 38) else none) [7] (by kernel_rfl) (by kernel_rfl) (by kernel_rfl) (by kernel_rfl) (by kernel_rfl) (by intro i hi; simp at hi; subst hi; rfl) ⟨rfl, rfl⟩ (fun c a d v w h => by cases d <;> exact h) ?_
                    simp only [sleepTwo_cons, sleepTwo_two]
                    repeat (refine wpG_one rfl rfl rfl ?_; intro K hK; go_big_quiet_op; go_big_quiet_on)
                    refine wpG_make (SlO 2 xs.length (rR l)) rfl rfl (fun w' hw' _ => ?_) (fun u hu => ?_)
                    · go_simp
                      exact own_growO (co.out w' hw'.le)
                    obtain ⟨_, _, A6, d6, rfl, _, _, _⟩ := hu
                    simp only [Act.put, List.setIfInBounds_toArray, List.set_cons_zero, List.set_cons_succ]
                    repeat (refine wpG_one rfl rfl rfl ?_; intro K hK; go_big_quiet_op; go_big_quiet_on)
                    refine wpG_make (SlB l ⟨cl, ch⟩ 0) rfl rfl (fun w' hw' hk => ?_) (fun u hu => ?_)
                    · have hk1 := hk ⟨1, .data⟩ (by simp) rfl _ _ _ rfl rfl rfl (by simp) rfl
                      obtain ⟨E, e, he, _, _, hr⟩ := hk1.now
                      obtain ⟨rfl, _, rfl⟩ : A6 = E ∧ xs.length = xs.length ∧ d6 = e := by injection he with h1 h2 h3; exact ⟨h1, rfl, h3⟩
                      go_simp
                      exact retB_growO (cb.out w' _ _ hr)
                    obtain ⟨_, _, A7, d7, rfl, _⟩ := hu
                    simp only [Act.put, List.setIfInBounds_toArray, List.set_cons_zero, List.set_cons_succ]
                    repeat (refine wpG_one rfl rfl rfl ?_; intro K hK; go_big_quiet_op; go_big_quiet_on)
                    refine wpG_make (NewAt Y0 #[I 0, I 0] 38) rfl rfl (fun w' hw' _ => ?_) (fun u hu => ?_)
                    · go_simp
                      exact new_grow hw'
                    obtain ⟨_, _, bm, rfl, _, _⟩ := hu
                    simp only [Act.put, List.setIfInBounds_toArray, List.set_cons_zero, List.set_cons_succ]
                    repeat (refine wpG_one rfl rfl rfl ?_; intro K hK; go_big_quiet_op; go_big_quiet_on)
                    refine wpG_nil (fun w5 hw5 hG => ?_)
                    have hn := (Box.now hG.2).at
                    have hr7 := rd_store (Box.now hG.1.2).at hn.1 hl1.out
                    clear hG
                    intro s t' hs ht'
                    obtain rfl := Option.some.inj hs
                    obtain rfl := Option.some.inj ht'
                    clear hs ht'
                    refine wp_store_row 38 _ _ rfl bm rfl _ _ hn.1 #[I cl, I ch] rfl (one2 rfl rfl) rfl (by kernel_rfl) ?_
                    refine ⟨hw5.set hn.2 _, ?_⟩
                    refine wp_assign _ (I 0) rfl rfl ?_
                    refine ⟨hw5.set hn.2 _, ?_⟩
                    simp only [Act.put, List.setIfInBounds_toArray, List.set_cons_zero, List.set_cons_succ]
                    obtain ⟨Z2, hZ⟩ : ∃ Z, Z = w5.setRow bm #[I cl, I ch] := ⟨_, rfl⟩
                    have rZ : Z2.heap[bm]? = some (.cells #[I cl, I ch] 38 (0, 0)) := by rw [hZ]; exact setRow_same hn.1
                    have hbZ : Below Y0.heap.size Y0 Z2 := by rw [hZ]; exact below_setRow hw5.le hn.2 _
                    have hr8 : Rd Z2 Z2.heap.size 2 A7 xs.length (rR l) := by rw [Hll.out] at hr7; rw [hZ]; exact hr7.more (by rw [setRow_size]; exact Nat.le_refl _)
                    have hr9 : Rd Z2 Z.heap.size 2 A5 xs.length (rR l) := Hr6.out.below (HwY.out _ hbZ)
                    have hsz9 : Z.heap.size ≤ Z2.heap.size := (HwY.out _ hbZ).size
                    rw [← hZ, Hll.out]
                    clear hZ hn hw5 hr7 co cb
                    have reZ2 : ∀ v, ∃ x, ovr Z2 v = ovr Y0 x := fun v => ovr_reB hbZ v
                    replace yW00 := tr_cell reZ2 yW00
                    replace yW01 := tr_cell reZ2 yW01
                    replace RrowW0 := Lib.hid (tr_row reZ2 RrowW0.out)
                    replace yV100 := tr_cell reZ2 yV100
                    replace yV101 := tr_cell reZ2 yV101
                    replace RrowV10 := Lib.hid (tr_row reZ2 RrowV10.out)
                    replace yZ00 := tr_cell reZ2 yZ00
                    replace yZ01 := tr_cell reZ2 yZ01
                    replace RrowZ0 := Lib.hid (tr_row reZ2 RrowZ0.out)
                    have yZ200 := ovr_cell (W := Z2) (b := bm) (o := 0) (v := I cl) (by rw [cell_of_row _ _ _ _ _ _ rZ]; rfl)
                    have yZ201 := ovr_cell (W := Z2) (b := bm) (o := 1) (v := I ch) (by rw [cell_of_row _ _ _ _ _ _ rZ]; rfl)
                    have RrowZ20 := Lib.hid (ovr_row rZ)
                    clear rZ
                    have HUZ2 : Hid (∀ u, Below w.heap.size w (ovr Z2 u)) := fun u => by obtain ⟨x, hx⟩ := reZ2 u; rw [hx]; exact HUY0.out x
                    clear reZ2 hbZ
                    have cs : Hid (∀ u, Calls Try.prog 30 #[.slice A5 xs.length d5, .slice A7 xs.length d7] (ovr Z2 u) fun e w' => e = .returned (.bool true) ∧ Below (ovr Z2 u).heap.size (ovr Z2 u) w') := fun u => sameR_yes A5 A7 xs.length d5 d7 l (ovr Z2 u) Z.heap.size Z2.heap.size Hll.out.symm (by omega) (Nat.le_trans hsz9 (ovr_below Z2 u).size) (ovr_below Z2 u).size (hr9.below ((ovr_below Z2 u).mono hsz9)) (hr8.below (ovr_below Z2 u))
                    clear hr8 hr9 hsz9
                    obtain ⟨u7, hu7⟩ := ovr_self Z2
                    rw [hu7]
                    clear hu7
                    go_wp2_with fail
                    refine (cs.out _).mono ?_
                    rintro e w1 ⟨rfl, hb1⟩
                    obtain ⟨u8, rfl⟩ := ovr_next hb1
                    clear hb1
                    go_wp2_with fail
                    refine (ck.out _).mono ?_
                    rintro e w1 ⟨rfl, hb1⟩
                    obtain ⟨u9, rfl⟩ := ovr_next hb1
                    clear hb1
                    go_wp2_with fail
                    go_ret
                    exact ⟨rfl, HUZ2.out _⟩
end Go.Proofs.Ytmadlmmfbpmebaa
