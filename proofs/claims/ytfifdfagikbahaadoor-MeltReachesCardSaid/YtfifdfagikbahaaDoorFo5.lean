/- What the laws over courses share: copies of lists, sums, what Follow tells in a region that draws. -/
import Derived.Test.YtfifdfagikbahaaDoorCm2
import Derived.Test.YtfifdfagikbahaaDoorLmp
namespace Go.Proofs.YtfifdfagikbahaaDoor
open Go.RowKit
attribute [local go_sem] Oper.semAt_some
theorem ownCnts_any (A : Option Addr) (n c : Nat) (g : Nat → Nat → Value) (w : World) (B : Nat) (hn : n ≤ 1000) (hB : B ≤ w.heap.size) (hx : Rd w B 3 A n g) : Calls Tryd.prog 28 #[.slice A n c] w (RetLc w 3 n g) := by
  obtain ⟨i0, hi0, iz0, iz1, iz2⟩ := info_parts cnt_info
  have HX := Lib.hid hx
  have HB := Lib.hid hB
  have HN := Lib.hid hn
  clear hx hB hn
  go_enter Tryd.func28, Tryd.ntmps28
  go_wp2_with (at_builtin; go_loud (refine wpList_app_lit rfl _ _ 64 rfl 63 i0 _ 3 24 Tryd.underlying64 hi0 iz0 iz1 iz2 rfl (by decide) _ rfl A n c rfl g ?hr ?hn (by decide) ?_))
  case hr => exact (HX.out.alloc HB.out _).more (by have := HB.out; simp; omega)
  case hn => have := HN.out; omega
  intro A' c' w' h1 h2 h3 h4
  have H4 : Hid (Below w.heap.size w w') := ((Below.refl _ _).alloc (Nat.le_refl _) _).trans (h4.mono (by omega))
  clear h4
  go_wp2_with fail
  go_ret
  exact ⟨A', c', rfl, h1, h2, h3, H4.out⟩
/-- A copy, in a region that draws. -/
def OlF (sz n : Nat) (g : Nat → Nat → Value) (u : Value) (w : World) : Prop := ∃ A c, u = .slice A n c ∧ n ≤ c ∧ c ≤ maxLen ∧ Rd w w.heap.size sz A n g
theorem olF_grow {P : Program} {f : FuncId} {args : Array Value} {w : World} {sz n : Nat} {g : Nat → Nat → Value} (h : Calls P f args w (RetLc w sz n g)) : Calls P f args w fun e w' => ∃ u, e = .returned u ∧ Le w w' ∧ Box (OlF sz n g) u w' :=
  h.mono fun _ _ ⟨A, c, he, h1, h2, h3, h4⟩ => ⟨_, he, h4, fun _ hl => ⟨A, c, rfl, h1, h2, (h3.below hl).more (Below.size hl)⟩⟩
/-- What Follow tells, in a region that draws. -/
def FolF (m : Mlt) (l : List Stp) (st : Nat → Int) (cs : List (Nat → Int)) (u : Value) (w : World) : Prop :=
  ∃ (S : Option Addr) (n d : Nat) (E : Nat → Int), u = .tuple #[.slice S n d, .agg (cnArr E), I (flE m l st cs)] ∧ n ≤ d ∧ d ≤ maxLen ∧ (flE m l st cs ≠ 0 → S = none ∧ n = 0 ∧ d = 0 ∧ E = fun _ => 0) ∧ (flE m l st cs = 0 → n = fzK l l.length ∧ E = fun s => wkG m (tdG cs s) s (st s) l l.length) ∧ ClIn 0 w S n (rN3 (fzL l cs l.length))
theorem FolF.le {m : Mlt} {l : List Stp} {st : Nat → Int} {cs : List (Nat → Int)} {u : Value} {w w' : World} (h : FolF m l st cs u w) (hl : Le w w') : FolF m l st cs u w' := by
  obtain ⟨S, n, d, E, h1, h2, h3, h4, h5, h6⟩ := h
  exact ⟨S, n, d, E, h1, h2, h3, h4, h5, h6.row fun b o _ ho _ => (Below.block hl b (Array.getElem?_eq_some_iff.1 ho).1).trans ho⟩
theorem FolF.cl {m : Mlt} {l : List Stp} {st : Nat → Int} {cs : List (Nat → Int)} {S : Option Addr} {n d : Nat} {x y : Value} {w : World} (h : FolF m l st cs (.tuple #[.slice S n d, x, y]) w) : ClIn 0 w S n (rN3 (fzL l cs l.length)) := by
  obtain ⟨S', n', d', E, he, _, _, _, _, h6⟩ := h
  have e : some (Value.slice S n d) = some (.slice S' n' d') := congrArg (fun v : Value => match v with | Value.tuple a => a[0]? | _ => none) he
  simp only [Option.some.injEq, Value.slice.injEq] at e
  obtain ⟨rfl, rfl, rfl⟩ := e
  exact h6
theorem follow_grow (m : Mlt) (A : Option Addr) (c : Nat) (l : List Stp) (st : Nat → Int) (Ch : Option Addr) (cc : Nat) (cs : List (Nat → Int)) (w : World) (hG : Glob w) (hx : Rd w w.heap.size 8 A l.length (rT l)) (hk : ∀ j, j < l.length → 0 ≤ (at0 l j).kd ∧ (at0 l j).kd ≤ 255) (hn : l.length ≤ maxLen) (hc : Rd w w.heap.size 3 Ch cs.length (rN3 cs)) (hcn : cs.length ≤ maxLen) :
    Calls Tryd.prog 27 #[.agg (mltArr m), .slice A l.length c, .agg (cnArr st), .slice Ch cs.length cc] w fun e w' => ∃ u, e = .returned u ∧ Le w w' ∧ Box (FolF m l st cs) u w' :=
  (follow_any m A c l st Ch cc cs w hG hx hk hn hc hcn).mono fun e w' ⟨hb, h⟩ => by
    have key : ∀ u, FolF m l st cs u w' → Box (FolF m l st cs) u w' := fun u h w'' hl => h.le hl
    rcases h with ⟨h0, rfl⟩ | ⟨h0, S, d, rfl, h2, h3, h4⟩
    · exact ⟨_, rfl, hb, key _ ⟨none, 0, 0, fun _ => 0, rfl, by omega, by unfold maxLen; omega, fun _ => ⟨rfl, rfl, rfl, rfl⟩, fun h => absurd h h0, fun h => absurd h (by omega)⟩⟩
    · exact ⟨_, rfl, hb, key _ ⟨S, _, d, _, by rw [h0], h2, h3, fun h => absurd h0 h, fun _ => ⟨rfl, rfl⟩, h4.row' (Nat.zero_le _) fun b o _ ho _ => ho⟩⟩
theorem follow_uni (m : Mlt) (A : Option Addr) (c : Nat) (l : List Stp) (st : Nat → Int) (Ch : Option Addr) (cc : Nat) (cs : List (Nat → Int)) (w : World) (hG : Glob w) (hx : Rd w w.heap.size 8 A l.length (rT l)) (hk : ∀ j, j < l.length → 0 ≤ (at0 l j).kd ∧ (at0 l j).kd ≤ 255) (hn : l.length ≤ maxLen) (hc : Rd w w.heap.size 3 Ch cs.length (rN3 cs)) (hcn : cs.length ≤ maxLen) :
    Calls Tryd.prog 27 #[.agg (mltArr m), .slice A l.length c, .agg (cnArr st), .slice Ch cs.length cc] w fun e w' => ∃ (S : Option Addr) (n d : Nat) (E : Nat → Int), e = .returned (.tuple #[.slice S n d, .agg (cnArr E), I (flE m l st cs)]) ∧ n ≤ d ∧ d ≤ maxLen ∧ (flE m l st cs ≠ 0 → S = none ∧ n = 0 ∧ d = 0 ∧ E = fun _ => 0) ∧ (flE m l st cs = 0 → n = fzK l l.length ∧ E = fun s => wkG m (tdG cs s) s (st s) l l.length) ∧ ClIn w.heap.size w' S n (rN3 (fzL l cs l.length)) ∧ Below w.heap.size w w' :=
  (follow_any m A c l st Ch cc cs w hG hx hk hn hc hcn).mono fun e w' ⟨hb, h⟩ => by
    rcases h with ⟨h0, rfl⟩ | ⟨h0, S, d, rfl, h2, h3, h4⟩
    · exact ⟨none, 0, 0, fun _ => 0, rfl, by omega, by unfold maxLen; omega, fun _ => ⟨rfl, rfl, rfl, rfl⟩, fun h => absurd h h0, fun h => absurd h (by omega), hb⟩
    · exact ⟨S, _, d, _, by rw [h0], h2, h3, fun h => absurd h0 h, fun _ => ⟨rfl, rfl⟩, h4, hb⟩
theorem eq_one (xs ys : Array Value) (i : Nat) (a : Int) (hx : xs[i]? = some (I a)) (hy : ys[i]? = some (I a)) (rest : List Nat) (W : World) :
    (Op.eqItems 9999 3 1 xs ys (i :: rest)).run Tryd.prog W = (Op.eqItems 9999 3 1 xs ys rest).run Tryd.prog W := by
  have hp : Program.plainKey Tryd.prog 3 = true := by kernel_rfl
  have h1 := run_part_plain (P := Tryd.prog) W hp (off := i * 1) (by rw [Nat.mul_one]; exact hx)
  have h2 := run_part_plain (P := Tryd.prog) W hp (off := i * 1) (by rw [Nat.mul_one]; exact hy)
  have h3 := run_equalIn_int (P := Tryd.prog) W 9998 3 .i64 .i64 a a Tryd.underlying3
  simp only [Op.eqItems, Sem.run_bind, h1, h2, h3, Result.andThen_ok]
  simp
/-- Contents equal themselves. -/
theorem eq3 (a b c : Int) (W : World) : (Op.equalIn 10000 63 (.agg #[I a, I b, I c]) (.agg #[I a, I b, I c])).run Tryd.prog W = .ok true W := by
  have hinfo : (Tryd.prog.info? 3).map (fun i => i.size) = some 1 := by kernel_rfl
  obtain ⟨i, hi, hs⟩ := Option.map_eq_some_iff.1 hinfo
  rw [run_equalIn_array (P := Tryd.prog) W 9999 _ _ Tryd.underlying63 hi]
  have hc : Tryd.prog.cellsOf 3 = 1 := by unfold Program.cellsOf; rw [hi]; exact hs
  simp only [hc, show List.range 3 = [0, 1, 2] from rfl]
  rw [eq_one _ _ 0 a rfl rfl, eq_one _ _ 1 b rfl rfl, eq_one _ _ 2 c rfl rfl]
  rfl
theorem has_any (r : Rng) (n : Int) (w : World) : Calls Tryd.prog 31 #[.agg #[I r.lo, I r.hi], I n] w fun e w' => e = .returned (.bool (wiB n r.lo r.hi)) ∧ Below w.heap.size w w' := by
  have hB : Hid (Below w.heap.size w (w.alloc (.cells #[I r.lo, I r.hi] 23))) := (Below.refl _ _).alloc (Nat.le_refl _) _
  unfold wiB
  rcases h1 : decide (r.lo ≤ n) with _ | _
  · go_enter Tryd.func31, Tryd.ntmps31
    go_wp2_with fail
    go_ret
    exact ⟨rfl, hB.out⟩
  · rcases h2 : decide (n ≤ r.hi) with _ | _
    · go_enter Tryd.func31, Tryd.ntmps31
      go_wp2_with fail
      go_ret
      exact ⟨rfl, hB.out⟩
    · go_enter Tryd.func31, Tryd.ntmps31
      go_wp2_with fail
      go_ret
      exact ⟨rfl, hB.out⟩
theorem has2 (a b n : Int) (h : wiB n a b = true) (w : World) : Calls Tryd.prog 31 #[.agg #[I a, I b], I n] w fun e w' => e = .returned (.bool true) ∧ Below w.heap.size w w' :=
  (has_any ⟨a, b⟩ n w).mono fun _ _ h' => ⟨h'.1.trans (by rw [show wiB n (Rng.mk a b).lo (Rng.mk a b).hi = true from h]), h'.2⟩
theorem sumK_bd {l : List Stp} {c : Nat → Int} {p : Int → Bool} {n : Nat} (hc : ∀ k, k < n → 0 ≤ c k ∧ c k ≤ 300000000000000) : ∀ k, k ≤ n → 0 ≤ sumK l c p k ∧ sumK l c p k ≤ k * 300000000000000
  | 0, _ => ⟨Int.le_refl _, by show (0 : Int) ≤ _; omega⟩
  | k + 1, hk => by
    have ih := sumK_bd (l := l) (p := p) hc k (by omega)
    have := hc k (by omega)
    rw [sumK]
    split <;> omega
set_option maxHeartbeats 2000000 in
theorem sums_any (A Ch : Option Addr) (c cc s : Nat) (l : List Stp) (cs : List (Nat → Int)) (w : World) (hs : s < 3) (hl : l.length ≤ 200) (hlen : cs.length = l.length) (hS : ∀ k, k < l.length → isS (at0 l k) = true) (hb : ∀ k, k < l.length → 0 ≤ at0 cs k s ∧ at0 cs k s ≤ 300000000000000) (hx : Rd w w.heap.size 8 A l.length (rT l)) (hc : Rd w w.heap.size 3 Ch cs.length (rN3 cs)) :
    Calls Tryd.prog 30 #[.slice A l.length c, .slice Ch cs.length cc, I (s : Int)] w fun e w' => e = .returned (.tuple #[I (sumK l (fun k => at0 cs k s) isA l.length), I (sumK l (fun k => at0 cs k s) isF l.length), I (sumK l (fun k => at0 cs k s) isV l.length)]) ∧ Below w.heap.size w w' := by
  have HX := Lib.hid hx
  have HC := Lib.hid hc
  have HS := Lib.hid hS
  have HB := Lib.hid hb
  have hs1 : decide ((s : Int) < 3) = true := decide_eq_true (by omega)
  have hs2 : decide (s < 3) = true := decide_eq_true hs
  have hs3 : decide (0 ≤ (s : Int)) = true := decide_eq_true (by omega)
  clear hx hc hS hb
  go_enter Tryd.func30, Tryd.ntmps30
  go_wp2_with fail
  go_loopw [12, 9, 10, 11] (fun i a f v wr => ∃ k : Nat, k ≤ l.length ∧ i = .int .i64 k ∧ a = I (sumK l (fun k => at0 cs k s) isA k) ∧ f = I (sumK l (fun k => at0 cs k s) isF k) ∧ v = I (sumK l (fun k => at0 cs k s) isV k) ∧ Below w.heap.size w wr) (fun i _ _ _ _ => l.length - (intOf i).toNat)
  case atStart => exact ⟨0, by omega, rfl, rfl, rfl, rfl, Below.refl _ _⟩
  case round =>
    rename World => X0
    obtain ⟨k, hk, rfl, rfl, rfl, rfl, hbw⟩ := hrel
    have Hbw := Lib.hid hbw
    clear hbw
    by_cases hlt : k < l.length
    · have hki : decide ((k : Int) < (l.length : Int)) = true := decide_eq_true (by omega)
      have hkn : decide (k < l.length) = true := decide_eq_true hlt
      have hk0 : decide (0 ≤ (k : Int)) = true := decide_eq_true (by omega)
      have hkc : decide ((k : Int) < (cs.length : Int)) = true := decide_eq_true (by omega)
      have hkd : decide (k < cs.length) = true := decide_eq_true (by omega)
      have hkp : k < cs.length := by omega
      obtain ⟨b, o, rfl, _, x0, x1, x2, x3, x4, x5, x6, x7⟩ := (HX.out.below Hbw.out).stp hlt
      obtain ⟨ab, ao, rfl, _, hc⟩ := (HC.out.below Hbw.out) (by omega)
      have q0 : X0.cell? ⟨ab, ao + k * 3 + s, none⟩ = some (I (at0 cs k s)) := hc k hkp s hs
      have hbk := HB.out k hlt
      have ba := sumK_bd (l := l) (p := isA) (n := l.length) (c := fun k => at0 cs k s) HB.out k hk
      have bf := sumK_bd (l := l) (p := isF) (n := l.length) (c := fun k => at0 cs k s) HB.out k hk
      have bv := sumK_bd (l := l) (p := isV) (n := l.length) (c := fun k => at0 cs k s) HB.out k hk
      have ea : Hid (sumK l (fun k => at0 cs k s) isA (k + 1) = if isA (at0 l k).kd then sumK l (fun k => at0 cs k s) isA k + at0 cs k s else sumK l (fun k => at0 cs k s) isA k) := rfl
      have ef : Hid (sumK l (fun k => at0 cs k s) isF (k + 1) = if isF (at0 l k).kd then sumK l (fun k => at0 cs k s) isF k + at0 cs k s else sumK l (fun k => at0 cs k s) isF k) := rfl
      have ev : Hid (sumK l (fun k => at0 cs k s) isV (k + 1) = if isV (at0 l k).kd then sumK l (fun k => at0 cs k s) isV k + at0 cs k s else sumK l (fun k => at0 cs k s) isV k) := rfl
      have hkk := isS_kd (HS.out k hlt)
      clear hc
      obtain ⟨cv, hcv⟩ : ∃ q, at0 cs k s = q := ⟨_, rfl⟩
      obtain ⟨kd, hkd'⟩ : ∃ q, (at0 l k).kd = q := ⟨_, rfl⟩
      obtain ⟨va, hva⟩ : ∃ q, sumK l (fun k => at0 cs k s) isA k = q := ⟨_, rfl⟩
      obtain ⟨vf, hvf⟩ : ∃ q, sumK l (fun k => at0 cs k s) isF k = q := ⟨_, rfl⟩
      obtain ⟨vv, hvv⟩ : ∃ q, sumK l (fun k => at0 cs k s) isV k = q := ⟨_, rfl⟩
      simp only [hcv, hkd', hva, hvf, hvv] at x0 q0 hbk ba bf bv ea ef ev hkk
      rw [hva, hvf, hvv]
      clear hcv hkd' hva hvf hvv x1 x2 x3 x4 x5 x6 x7
      have wa : IntKind.i64.wrap (va + cv) = va + cv := IntWalk.i64_in _ (by omega)
      have wf : IntKind.i64.wrap (vf + cv) = vf + cv := IntWalk.i64_in _ (by omega)
      have wv : IntKind.i64.wrap (vv + cv) = vv + cv := IntWalk.i64_in _ (by omega)
      clear hbk ba bf bv
      rcases hkk with rfl | rfl | rfl | rfl
      all_goals
        go_wp2_with fail
        go_roundw
        case rel => exact ⟨k + 1, hlt, by go_num, by rw [ea.out]; rfl, by rw [ef.out]; rfl, by rw [ev.out]; rfl, Hbw.out⟩
        case measure => simp [intOf]; omega
    · obtain rfl : k = l.length := by omega
      have hki : decide ((l.length : Int) < (l.length : Int)) = false := decide_eq_false (by omega)
      go_wp2_with fail
      go_ret3
      exact ⟨rfl, Hbw.out⟩
end Go.Proofs.YtfifdfagikbahaaDoor
