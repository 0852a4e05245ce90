/- Numbers by their digits in the base 1000000: plain laws of Sums, product and Compare of the reference. -/
import Derived.Test.YtfifdfagikbahaaDoorBa
import Derived.Test.YtfifdfagikbahaaDoorNm
namespace Go.Proofs.YtfifdfagikbahaaDoor
/-- The number of some digits, the last ones first. -/
def val : List Nat → Nat
  | [] => 0
  | x :: l => x + 1000000 * val l
def pw (k : Nat) : Nat := 1000000 ^ k
theorem pw_succ (k : Nat) : pw (k + 1) = 1000000 * pw k := by unfold pw; rw [Nat.pow_succ, Nat.mul_comm]
theorem pw_pos (k : Nat) : 1 ≤ pw k := Nat.pos_of_ne_zero (by unfold pw; exact Nat.ne_of_gt (Nat.pow_pos (by decide)))
theorem pw_mono {j k : Nat} (h : j ≤ k) : pw j ≤ pw k := Nat.pow_le_pow_right (by decide) h
theorem val_app_zero : ∀ (l : List Nat), val (l ++ [0]) = val l
  | [] => rfl
  | x :: l => by rw [List.cons_append, val, val, val_app_zero l]
theorem at0_cons {x : Nat} {l : List Nat} {k : Nat} : at0 (x :: l) (k + 1) = at0 l k := rfl
theorem val_set : ∀ (l : List Nat) (k v : Nat), k < l.length → val (l.set k v) + pw k * at0 l k = val l + pw k * v
  | [], k, v, h => absurd h (by simp)
  | x :: l, 0, v, h => by
    show v + 1000000 * val l + pw 0 * x = x + 1000000 * val l + pw 0 * v
    have : pw 0 = 1 := rfl
    rw [this]; omega
  | x :: l, k + 1, v, h => by
    have ih := val_set l k v (Nat.lt_of_succ_lt_succ h)
    show x + 1000000 * val (l.set k v) + pw (k + 1) * at0 l k = x + 1000000 * val l + pw (k + 1) * v
    rw [pw_succ, Nat.mul_assoc, Nat.mul_assoc]
    omega
/-- Every digit is below the base. -/
def Dig (l : List Nat) : Prop := ∀ x, x ∈ l → x < 1000000
theorem val_lt : ∀ (l : List Nat), Dig l → val l < pw l.length
  | [], _ => by decide
  | x :: l, h => by
    have ih := val_lt l fun y hy => h y (List.mem_cons_of_mem _ hy)
    have hx := h x (List.mem_cons_self ..)
    show x + 1000000 * val l < pw (l.length + 1)
    rw [pw_succ]
    omega
/-- The state of the inner loop: one step of long addition with carry. -/
theorem step_val {out : List Nat} {k carry part n : Nat} (hk : k < out.length) :
    val (out.set k ((carry + (at0 out k + part * (n % 1000000))) % 1000000)) + pw (k + 1) * ((carry + (at0 out k + part * (n % 1000000))) / 1000000 + part * (n / 1000000)) = val out + pw k * (carry + part * n) := by
  have h := val_set out k ((carry + (at0 out k + part * (n % 1000000))) % 1000000) hk
  obtain ⟨o, ho⟩ : ∃ o, at0 out k = o := ⟨_, rfl⟩
  rw [ho] at h ⊢
  have hn := Nat.div_add_mod n 1000000
  obtain ⟨q, hq⟩ : ∃ q, n / 1000000 = q := ⟨_, rfl⟩
  obtain ⟨r, hr⟩ : ∃ r, n % 1000000 = r := ⟨_, rfl⟩
  rw [hq, hr] at hn
  rw [hq, hr]
  rw [hr] at h
  have hc := Nat.div_add_mod (carry + (o + part * r)) 1000000
  obtain ⟨c, hcd⟩ : ∃ c, carry + (o + part * r) = c := ⟨_, rfl⟩
  rw [hcd] at h hc ⊢
  obtain ⟨cd, h1⟩ : ∃ x, c / 1000000 = x := ⟨_, rfl⟩
  obtain ⟨cm, h2⟩ : ∃ x, c % 1000000 = x := ⟨_, rfl⟩
  rw [h1, h2] at hc
  rw [h2] at h
  rw [h1, h2]
  have e1 : part * n = part * (1000000 * q) + part * r := by rw [← hn, Nat.mul_add]
  have e2 : pw (k + 1) * (cd + part * q) = pw k * (1000000 * (cd + part * q)) := by rw [pw_succ, Nat.mul_comm 1000000 (pw k), Nat.mul_assoc]
  have e3 : 1000000 * (cd + part * q) = 1000000 * cd + part * (1000000 * q) := by rw [Nat.mul_add, ← Nat.mul_assoc 1000000 part q, Nat.mul_comm 1000000 part, Nat.mul_assoc]
  rw [e2, e3]
  have e4 : pw k * (carry + part * n) + pw k * o = pw k * (1000000 * cd + part * (1000000 * q)) + pw k * cm := by
    rw [← Nat.mul_add, ← Nat.mul_add, e1]
    congr 1
    omega
  omega
theorem Dig.set {l : List Nat} {k v : Nat} (h : Dig l) (hv : v < 1000000) : Dig (l.set k v) := fun x hx => by
  rcases List.mem_or_eq_of_mem_set hx with h1 | h1
  · exact h x h1
  · rw [h1]; exact hv
theorem Dig.app {l : List Nat} (h : Dig l) : Dig (l ++ [0]) := fun x hx => by
  rcases List.mem_append.1 hx with h1 | h1
  · exact h x h1
  · simp at h1; omega
theorem Dig.at {l : List Nat} (h : Dig l) {k : Nat} (hk : k < l.length) : at0 l k < 1000000 := by
  rw [at0_get hk]; exact h _ (List.getElem_mem hk)
/-- The value of the digits from k on. -/
theorem val_drop : ∀ (l : List Nat) (k : Nat), k < l.length → val (l.drop k) = at0 l k + 1000000 * val (l.drop (k + 1))
  | [], k, h => absurd h (by simp)
  | x :: l, 0, h => rfl
  | x :: l, k + 1, h => by
    have := val_drop l k (Nat.lt_of_succ_lt_succ h)
    simpa [at0_cons] using this
/-- Comparing from the top digit down. -/
def dAt (l : List Nat) (k : Nat) : Nat := if k < l.length then at0 l k else 0
theorem dAt_lt {l : List Nat} (h : Dig l) (k : Nat) : dAt l k < 1000000 := by
  unfold dAt
  split
  · exact h.at (by assumption)
  · decide
theorem drop_dAt (l : List Nat) (k : Nat) : val (l.drop k) = dAt l k + 1000000 * val (l.drop (k + 1)) := by
  unfold dAt
  split
  · exact val_drop l k (by assumption)
  · rw [List.drop_eq_nil_of_le (by omega), List.drop_eq_nil_of_le (by omega)]; rfl
theorem drop_end {l : List Nat} {k : Nat} (h : l.length ≤ k) : val (l.drop k) = 0 := by rw [List.drop_eq_nil_of_le h]; rfl
def cm2 (a b : Nat) : Int := if a < b then -1 else if a = b then 0 else 1
/-- The first difference from the top tells. -/
theorem cmp_at {a b : List Nat} {k : Nat} (h1 : val (a.drop (k + 1)) = val (b.drop (k + 1))) (h2 : dAt a k ≠ dAt b k) : cm2 (val (a.drop k)) (val (b.drop k)) = if dAt a k < dAt b k then -1 else 1 := by
  rw [drop_dAt a k, drop_dAt b k, h1]
  unfold cm2
  split
  · rw [if_pos (by omega)]
  · rw [if_neg (by omega), if_neg (by omega)]
/-- Once the higher digits differ, the lower ones do not matter. -/
theorem cmp_down {a b : List Nat} (ha : Dig a) (hb : Dig b) : ∀ k, val (a.drop k) ≠ val (b.drop k) → cm2 (val a) (val b) = cm2 (val (a.drop k)) (val (b.drop k))
  | 0, _ => by rw [List.drop_zero, List.drop_zero]
  | k + 1, h => by
    have da := dAt_lt ha k
    have db := dAt_lt hb k
    have e1 := drop_dAt a k
    have e2 := drop_dAt b k
    have hk : val (a.drop k) ≠ val (b.drop k) := by omega
    rw [cmp_down ha hb k hk]
    unfold cm2
    by_cases h1 : val (a.drop (k + 1)) < val (b.drop (k + 1))
    · rw [if_pos h1, if_pos (by omega)]
    · rw [if_neg h1, if_neg h, if_neg (by omega), if_neg (by omega)]
end Go.Proofs.YtfifdfagikbahaaDoor
/- Compare of the reference. -/
namespace Go.Proofs.YtfifdfagikbahaaDoor
open Go.RowKit
attribute [local go_sem] Oper.semAt_some
abbrev rN (l : List Nat) (k _ : Nat) : Value := I ((at0 l k : Nat) : Int)
theorem Rd.num {w : World} {B k : Nat} {A : Option Addr} {l : List Nat} (h : Rd w B 1 A l.length (rN l)) (hk : k < l.length) : ∃ b o, A = some ⟨b, o, none⟩ ∧ w.cell? ⟨b, o + k, none⟩ = some (I ((at0 l k : Nat) : Int)) := by
  obtain ⟨b, o, e, hb, hc⟩ := h (by omega)
  exact ⟨b, o, e, by have := hc k hk 0 (by omega); simpa using this⟩
set_option maxHeartbeats 1000000 in
theorem compareD_any (a b : List Nat) (A A' : Option Addr) (c c' B : Nat) (w : World) (ha : Dig a) (hb : Dig b) (hla : a.length ≤ 1000) (hlb : b.length ≤ 1000) (hB : B ≤ w.heap.size) (hx : Rd w B 1 A a.length (rN a)) (hy : Rd w B 1 A' b.length (rN b)) :
    Calls Tryd.prog 81 #[.slice A a.length c, .slice A' b.length c'] w fun e w' => e = .returned (I (cm2 (val a) (val b))) ∧ Below w.heap.size w w' := by
  have HX := Lib.hid hx
  have HY := Lib.hid hy
  have HA := Lib.hid ha
  have HB := Lib.hid hb
  clear hx hy ha hb
  obtain ⟨M, hM⟩ : ∃ M, max a.length b.length = M := ⟨_, rfl⟩
  have hMa : a.length ≤ M := by omega
  have hMb : b.length ≤ M := by omega
  have hM2 : M ≤ 1000 := by omega
  have hMo : M ≤ a.length ∨ M ≤ b.length := by omega
  have w0 : IntKind.i64.wrap ((M : Int) - 1) = (M : Int) - 1 := IntWalk.i64_in _ (by omega)
  have hmx : max (a.length : Int) (b.length : Int) = (M : Int) := by omega
  clear hM
  go_enter Tryd.func81, Tryd.ntmps81
  go_wp2_with fail
  clear w0 hmx
  go_loopw [5] (fun i wr => ∃ j : Nat, j ≤ M ∧ i = .int .i64 ((j : Int) - 1) ∧ val (a.drop j) = val (b.drop j) ∧ Below w.heap.size w wr) (fun i _ => (intOf i + 1).toNat)
  case atStart => exact ⟨M, Nat.le_refl _, rfl, by rw [drop_end hMa, drop_end hMb], Below.refl _ _⟩
  case round =>
    rename World => X
    obtain ⟨j, hj, rfl, he, hw⟩ := hrel
    have Hw := Lib.hid hw
    clear hw
    rcases j with _ | k
    · have hz : cm2 (val a) (val b) = 0 := by
        rw [List.drop_zero, List.drop_zero] at he
        unfold cm2
        rw [if_neg (by omega), if_pos he]
      have Hz := Lib.hid hz
      clear he hz
      go_wp2_with fail
      go_ret
      exact ⟨by rw [Hz.out]; rfl, Hw.out⟩
    · have He := Lib.hid he
      rw [show ((k + 1 : Nat) : Int) - 1 = (k : Int) by omega]
      clear he
      have k0 : decide (0 ≤ (k : Int)) = true := decide_eq_true (by omega)
      by_cases h1 : k < a.length
      · have k1 : decide ((k : Int) < (a.length : Int)) = true := decide_eq_true (by omega)
        have k2 : decide (k < a.length) = true := decide_eq_true h1
        obtain ⟨b1, o1, rfl, ya⟩ := (HX.out.below (Hw.out.mono hB)).num h1
        have hda : dAt a k = at0 a k := if_pos h1
        rw [← hda] at ya
        clear hda
        by_cases h2 : k < b.length
        · have k3 : decide ((k : Int) < (b.length : Int)) = true := decide_eq_true (by omega)
          have k4 : decide (k < b.length) = true := decide_eq_true h2
          obtain ⟨b2, o2, rfl, yb⟩ := (HY.out.below (Hw.out.mono hB)).num h2
          have hdb : dAt b k = at0 b k := if_pos h2
          rw [← hdb] at yb
          clear hdb
          obtain ⟨x, hx⟩ : ∃ x, dAt a k = x := ⟨_, rfl⟩
          rw [hx] at ya
          obtain ⟨y, hy⟩ : ∃ y, dAt b k = y := ⟨_, rfl⟩
          rw [hy] at yb
          have HZ : Hid (dAt a k = x ∧ dAt b k = y) := ⟨hx, hy⟩
          clear hx hy
          by_cases hxy : x = y
          · have d1 : ((x : Int) == (y : Int)) = true := by rw [beq_iff_eq]; omega
            have d2 : ((x : Int) != (y : Int)) = false := by rw [bne_eq_false_iff_eq]; omega
            have Hxy := Lib.hid hxy
            have w1 : IntKind.i64.wrap ((k : Int) - 1) = (k : Int) - 1 := IntWalk.i64_in _ (by omega)
            clear hxy
            go_wp2_with fail
            go_roundw
            case rel => exact ⟨k, by omega, rfl, by rw [drop_dAt a k, drop_dAt b k, HZ.out.1, HZ.out.2, Hxy.out, He.out], Hw.out⟩
            case measure => simp only [intOf]; show (_ : Int).toNat < (_ : Int).toNat; simp
          · have d2 : ((x : Int) != (y : Int)) = true := by rw [bne_iff_ne]; omega
            have hf : cm2 (val a) (val b) = if x < y then -1 else 1 := by
              have h1 := cmp_at He.out (show dAt a k ≠ dAt b k by rw [HZ.out.1, HZ.out.2]; exact hxy)
              rw [HZ.out.1, HZ.out.2] at h1
              rw [← h1]
              refine cmp_down HA.out HB.out k fun h => hxy ?_
              rw [drop_dAt a k, drop_dAt b k, HZ.out.1, HZ.out.2, He.out] at h
              omega
            by_cases hlt : x < y
            · have d3 : decide ((x : Int) < (y : Int)) = true := decide_eq_true (by omega)
              rw [if_pos hlt] at hf
              have Hf := Lib.hid hf
              clear hf hxy
              go_wp2_with fail
              go_ret
              exact ⟨by rw [Hf.out]; rfl, Hw.out⟩
            · have d3 : decide ((x : Int) < (y : Int)) = false := decide_eq_false (by omega)
              rw [if_neg hlt] at hf
              have Hf := Lib.hid hf
              clear hf hxy
              go_wp2_with fail
              go_ret
              exact ⟨by rw [Hf.out]; rfl, Hw.out⟩
        · have k3 : decide ((k : Int) < (b.length : Int)) = false := decide_eq_false (by omega)
          have k4 : decide (k < b.length) = false := decide_eq_false h2
          have hdb : dAt b k = 0 := if_neg h2
          have hdb' := hdb.symm
          clear hdb
          obtain ⟨x, hx⟩ : ∃ x, dAt a k = x := ⟨_, rfl⟩
          rw [hx] at ya
          have hy : dAt b k = 0 := hdb'.symm
          have HZ : Hid (dAt a k = x ∧ dAt b k = 0) := ⟨hx, hy⟩
          clear hx hy
          by_cases hxy : x = 0
          · have d1 : ((x : Int) == (0 : Int)) = true := by rw [beq_iff_eq]; omega
            have d2 : ((x : Int) != (0 : Int)) = false := by rw [bne_eq_false_iff_eq]; omega
            have Hxy := Lib.hid hxy
            have w1 : IntKind.i64.wrap ((k : Int) - 1) = (k : Int) - 1 := IntWalk.i64_in _ (by omega)
            clear hxy
            go_wp2_with fail
            go_roundw
            case rel => exact ⟨k, by omega, rfl, by rw [drop_dAt a k, drop_dAt b k, HZ.out.1, HZ.out.2, Hxy.out, He.out], Hw.out⟩
            case measure => simp only [intOf]; show (_ : Int).toNat < (_ : Int).toNat; simp
          · have d2 : ((x : Int) != (0 : Int)) = true := by rw [bne_iff_ne]; omega
            have hf : cm2 (val a) (val b) = if x < 0 then -1 else 1 := by
              have h1 := cmp_at He.out (show dAt a k ≠ dAt b k by rw [HZ.out.1, HZ.out.2]; exact hxy)
              rw [HZ.out.1, HZ.out.2] at h1
              rw [← h1]
              refine cmp_down HA.out HB.out k fun h => hxy ?_
              rw [drop_dAt a k, drop_dAt b k, HZ.out.1, HZ.out.2, He.out] at h
              omega
            by_cases hlt : x < 0
            · have d3 : decide ((x : Int) < (0 : Int)) = true := decide_eq_true (by omega)
              rw [if_pos hlt] at hf
              have Hf := Lib.hid hf
              clear hf hxy
              go_wp2_with fail
              go_ret
              exact ⟨by rw [Hf.out]; rfl, Hw.out⟩
            · have d3 : decide ((x : Int) < (0 : Int)) = false := decide_eq_false (by omega)
              rw [if_neg hlt] at hf
              have Hf := Lib.hid hf
              clear hf hxy
              go_wp2_with fail
              go_ret
              exact ⟨by rw [Hf.out]; rfl, Hw.out⟩
      · have k1 : decide ((k : Int) < (a.length : Int)) = false := decide_eq_false (by omega)
        have k2 : decide (k < a.length) = false := decide_eq_false h1
        have hda : dAt a k = 0 := if_neg h1
        have hda' := hda.symm
        clear hda
        by_cases h2 : k < b.length
        · have k3 : decide ((k : Int) < (b.length : Int)) = true := decide_eq_true (by omega)
          have k4 : decide (k < b.length) = true := decide_eq_true h2
          obtain ⟨b2, o2, rfl, yb⟩ := (HY.out.below (Hw.out.mono hB)).num h2
          have hdb : dAt b k = at0 b k := if_pos h2
          rw [← hdb] at yb
          clear hdb
          have hx : dAt a k = 0 := hda'.symm
          obtain ⟨y, hy⟩ : ∃ y, dAt b k = y := ⟨_, rfl⟩
          rw [hy] at yb
          have HZ : Hid (dAt a k = 0 ∧ dAt b k = y) := ⟨hx, hy⟩
          clear hx hy
          by_cases hxy : 0 = y
          · have d1 : ((0 : Int) == (y : Int)) = true := by rw [beq_iff_eq]; omega
            have d2 : ((0 : Int) != (y : Int)) = false := by rw [bne_eq_false_iff_eq]; omega
            have Hxy := Lib.hid hxy
            have w1 : IntKind.i64.wrap ((k : Int) - 1) = (k : Int) - 1 := IntWalk.i64_in _ (by omega)
            clear hxy
            go_wp2_with fail
            go_roundw
            case rel => exact ⟨k, by omega, rfl, by rw [drop_dAt a k, drop_dAt b k, HZ.out.1, HZ.out.2, Hxy.out, He.out], Hw.out⟩
            case measure => simp only [intOf]; show (_ : Int).toNat < (_ : Int).toNat; simp
          · have d2 : ((0 : Int) != (y : Int)) = true := by rw [bne_iff_ne]; omega
            have hf : cm2 (val a) (val b) = if 0 < y then -1 else 1 := by
              have h1 := cmp_at He.out (show dAt a k ≠ dAt b k by rw [HZ.out.1, HZ.out.2]; exact hxy)
              rw [HZ.out.1, HZ.out.2] at h1
              rw [← h1]
              refine cmp_down HA.out HB.out k fun h => hxy ?_
              rw [drop_dAt a k, drop_dAt b k, HZ.out.1, HZ.out.2, He.out] at h
              omega
            by_cases hlt : 0 < y
            · have d3 : decide ((0 : Int) < (y : Int)) = true := decide_eq_true (by omega)
              rw [if_pos hlt] at hf
              have Hf := Lib.hid hf
              clear hf hxy
              go_wp2_with fail
              go_ret
              exact ⟨by rw [Hf.out]; rfl, Hw.out⟩
            · have d3 : decide ((0 : Int) < (y : Int)) = false := decide_eq_false (by omega)
              rw [if_neg hlt] at hf
              have Hf := Lib.hid hf
              clear hf hxy
              go_wp2_with fail
              go_ret
              exact ⟨by rw [Hf.out]; rfl, Hw.out⟩
        · omega
end Go.Proofs.YtfifdfagikbahaaDoor
/- Rows of digits in the heap: appended zeros, one digit set. -/
namespace Go.Proofs.YtfifdfagikbahaaDoor
open Go.RowKit
attribute [local go_sem] Oper.semAt_some
theorem digs_eq (l : List Nat) : flat 1 (rN l) l.length = l.map fun x => I ((x : Nat) : Int) := by
  refine List.ext_getElem (by simp [flat]) fun i h1 h2 => ?_
  have hi : i < l.length := by simpa using h2
  simp only [flat, List.getElem_map, List.getElem_range, Nat.div_one]
  show I ((at0 l i : Nat) : Int) = _
  rw [at0_get hi]
theorem digs_app (l : List Nat) : flat 1 (rN (l ++ [0])) (l.length + 1) = flat 1 (rN l) l.length ++ [I 0] := by
  have := digs_eq (l ++ [0])
  rw [List.length_append] at this
  rw [digs_eq]
  refine this.trans ?_
  rw [List.map_append]; rfl
theorem digs_cons (l : List Nat) : flat 1 (rN (0 :: l)) (l.length + 1) = [I 0] ++ flat 1 (rN l) l.length := by
  rw [digs_eq]; exact digs_eq (0 :: l)
theorem digs_set (l : List Nat) (k v : Nat) : (flat 1 (rN l) l.length).set k (I (v : Int)) = flat 1 (rN (l.set k v)) l.length := by
  have := digs_eq (l.set k v)
  rw [List.length_set] at this
  rw [digs_eq, this, List.map_set]
theorem run_app_lit_soc {P : Program} (w : World) (t ty e : TypeId) (i : TypeInfo) (z : Value) (sz bytes : Nat) (ht : P.underlying t = some (.slice e)) (hi : P.info? e = some i) (hz : i.zero = some z) (hsz : i.size = sz) (hby : i.bytes = bytes) (hzs : z.cells.size = sz) (h0 : 0 < sz)
    (b : Nat) (A : Option Addr) (n c : Nat) (g : Nat → Nat → Value) (hr : Rd w w.heap.size sz A n g) (hn : n ≤ 1000000) (hb : bytes ≤ 1000000) :
    ∃ v' w', (Builtin.append_ #[t, t] ty #[.slice (some ⟨b, 0, none⟩) 0 0, .slice A n c]).run P w = .ok v' w' ∧ Below w.heap.size w w' ∧ SoC e sz w.heap.size n (flat sz g n) v' w' := by
  by_cases hn0 : n = 0
  · subst hn0
    refine ⟨.slice (some ⟨b, 0, none⟩) 0 0, w, ?_, Below.refl _ _, .inl ⟨rfl, by simp [flat], b, rfl⟩⟩
    cases A <;> simp [go_sem, Builtin.append_, run_underlying ht, sizeOf, typeInfo, hi, Builtin.lenOf, Builtin.firstCells, storeCells]
  · obtain ⟨b2, o2, hA, _, hc⟩ := hr (by omega)
    subst hA
    have hm : n * bytes ≤ 1000000 * 1000000 := Nat.mul_le_mul hn hb
    obtain ⟨v', w', hrun, hown, hgr⟩ := run_append_arg_grows (P := P) w t ty e i z sz bytes ht hi hz hsz hby hzs h0 ⟨b, 0, none⟩ 0 0 [] (by simp) (fun j u hu => by simp at hu) ⟨b2, o2, none⟩ n c (flat sz g n) (flat_len _ _ _) (Rd.flat_at hc h0) (by omega) (by unfold maxLen; omega) (by rw [Nat.zero_add]; omega)
    rw [Nat.zero_add, List.nil_append] at hown
    exact ⟨v', w', hrun, (Below.refl _ _).grown hgr (Nat.le_refl _) (fun g hg => by cases hg), .inr hown⟩
theorem wpList_app_lit_soc {P : Program} {ops : Array Oper} {rest : List Oper} {o : Oper} {a : Act} {w : World} {Q : Exit → Act → World → Prop} (hg : o.guard = none) (s x : Operand) (t : TypeId) (ho : o.op = .call { callee := .builtin .append, args := #[s, x], argTypes := #[t, t] })
    (e : TypeId) (i : TypeInfo) (z : Value) (sz bytes : Nat) (ht : P.underlying t = some (.slice e)) (hi : P.info? e = some i) (hz : i.zero = some z) (hsz : i.size = sz) (hby : i.bytes = bytes) (hzs : z.cells.size = sz) (h0 : 0 < sz)
    (b : Nat) (hs : a.eval s = .slice (some ⟨b, 0, none⟩) 0 0) (A : Option Addr) (n c : Nat) (hx : a.eval x = .slice A n c) (g : Nat → Nat → Value) (hr : Rd w w.heap.size sz A n g) (hn : n ≤ 1000000) (hb : bytes ≤ 1000000)
    (hK : ∀ v' w', Below w.heap.size w w' → SoC e sz w.heap.size n (flat sz g n) v' w' → wpList P ops Q rest (a.put o.dst v') w') : wpList P ops Q (o :: rest) a w := by
  refine wpList_plain hg fun K hK' => ?_
  obtain ⟨v', w', hrun, h1, h2⟩ := run_app_lit_soc (P := P) w t o.type e i z sz bytes ht hi hz hsz hby hzs h0 b A n c g hr hn hb
  unfold Oper.wp
  simp [execOp, ho, resolve, invoke, builtin, hs, hx, hrun, Result.andThen]
  exact hK' _ _ (hK v' w' h1 h2)
/-- A row of one's own with a digit at k: its address, the digit, and the row after a store. -/
theorem own_open {w : World} {B : Nat} {e : TypeId} {v : Value} {l : List Nat} {k : Nat} (h : w.ownsRow B e 1 v l.length (flat 1 (rN l) l.length)) (hk : k < l.length) :
    ∃ g cap, v = .slice (some ⟨g, 0, none⟩) l.length cap ∧ B ≤ g ∧ w.cell? ⟨g, k, none⟩ = some (I ((at0 l k : Nat) : Int)) ∧ w.frozen? ⟨g, k, none⟩ = false ∧ ∀ d : Nat, (w.setCell ⟨g, k, none⟩ (I (d : Int))).ownsRow B e 1 v (l.set k d).length (flat 1 (rN (l.set k d)) (l.set k d).length) := by
  have h' := h
  rcases h.2 with ⟨rfl, e1⟩ | ⟨g, cap, cur, rfl, hb, _⟩
  · have := flat_len 1 (rN l) l.length
    rw [e1] at this
    simp at this; omega
  · refine ⟨g, cap, rfl, hb, ?_, ?_, fun d => ?_⟩
    · rw [h'.cellAt k (by omega), digs_eq, List.getElem?_map, List.getElem?_eq_getElem hk, at0_get hk]; rfl
    · exact h'.frozenAt k
    · have := (h'.stored k (I (d : Int))).1
      rw [digs_set] at this
      rw [List.length_set]
      exact this
end Go.Proofs.YtfifdfagikbahaaDoor
/- Sums of the reference. -/
namespace Go.Proofs.YtfifdfagikbahaaDoor
open Go.RowKit
attribute [local go_sem] Oper.semAt_some
def lenV : Value → Nat
  | .slice _ n _ => n
  | _ => 0
theorem SoC.base {e : TypeId} {sz B B' n : Nat} {l : List Value} {v : Value} {w : World} (h : SoC e sz B n l v w) (hb : B' ≤ B) : SoC e sz B' n l v w := h.imp id fun ho => own_base ho hb
theorem pw_div {b k : Nat} (h : b < pw (k + 1)) : b / 1000000 < pw k := by
  rw [pw_succ] at h; omega
theorem pw_div' {b m k : Nat} (h : b < pw (m - k)) : b / 1000000 < pw (m - (k + 1)) := by
  rcases Nat.eq_zero_or_pos (m - k) with h0 | h0
  · rw [h0] at h
    have : b < 1 := h
    have := pw_pos (m - (k + 1))
    omega
  · exact pw_div (by rw [show m - (k + 1) + 1 = m - k by omega]; exact h)
theorem pw_one {b m k : Nat} (h : b < pw (m - k)) (hb : 0 < b) : k < m := by
  rcases Nat.eq_zero_or_pos (m - k) with h0 | h0
  · rw [h0] at h
    have : b < 1 := h
    omega
  · omega
theorem sum_join {v2 v S K n b q pt T : Nat} (h1 : v2 + pw K * (0 + pt * 0) = v + pw S * (pt * n)) (h2 : v + pw S * (n * b) = T) (h3 : b = 1000000 * q + pt) : v2 + pw (S + 1) * (n * q) = T := by
  subst h3
  have e : pw S * (n * (1000000 * q + pt)) = pw (S + 1) * (n * q) + pw S * (pt * n) := by
    rw [Nat.mul_add, Nat.mul_add, pw_succ, Nat.mul_comm pt n, Nat.mul_left_comm n, Nat.mul_left_comm (pw S), Nat.mul_assoc]
  simp only [Nat.mul_zero, Nat.add_zero] at h1
  omega
theorem carry_k {v2 v S K C n N b pt T m : Nat} (h1 : v2 + pw K * (C + pt * N) = v + pw S * (pt * n)) (h2 : v + pw S * (n * b) = T) (h3 : pt ≤ b) (hT : T < pw m) (hK : K ≤ m) (hC : 0 < C) : K < m := by
  rcases Nat.lt_or_ge K m with h | h
  · exact h
  · obtain rfl : K = m := by omega
    have e1 : pw K * 1 ≤ pw K * (C + pt * N) := Nat.mul_le_mul_left _ (by omega)
    have e2 : pw S * (pt * n) ≤ pw S * (n * b) := Nat.mul_le_mul_left _ (by rw [Nat.mul_comm pt n]; exact Nat.mul_le_mul_left _ h3)
    omega
set_option maxHeartbeats 2000000 in
set_option maxRecDepth 6000 in
theorem sumsD_any (m : Nat) (hm6 : 6 ≤ m) (hm12 : m ≤ 12) (l : List Nat) (n b0 : Nat) (A : Option Addr) (c B : Nat) (w : World) (hl : Dig l) (hlen : l.length ≤ m) (hn : n < pw 3) (hb : b0 < pw 3) (hT : val l + n * b0 < pw m) (hB : B ≤ w.heap.size) (hx : Rd w B 1 A l.length (rN l)) :
    Calls Tryd.prog 80 #[.slice A l.length c, I (n : Int), I (b0 : Int)] w fun e w' => ∃ v o, e = .returned v ∧ Dig o ∧ o.length ≤ m ∧ val o = val l + n * b0 ∧ SoC 3 1 w.heap.size o.length (flat 1 (rN o) o.length) v w' ∧ Below w.heap.size w w' := by
  have hmm := @run_makeMap Tryd.prog
  obtain ⟨i1, hi1, iz1, is1, ib1⟩ := info_parts int_info
  have HX := Lib.hid hx
  have HT := Lib.hid hT
  have HL := Lib.hid hl
  clear hx hT hl
  go_enter Tryd.func80, Tryd.ntmps80
  go_wp2_with (at_builtin; go_loud (refine wpList_app_lit_soc rfl _ _ 102 rfl 3 i1 _ 1 8 Tryd.underlying102 hi1 iz1 is1 ib1 rfl (by decide) _ rfl A l.length c rfl (rN l) ?hr ?hn (by decide) ?_))
  case hr => exact (HX.out.alloc hB _).more (by simp; omega)
  case hn => omega
  intro v0 w1 h1 h2
  have Hso1 := Lib.hid (h2.base (show w.heap.size ≤ _ by simp))
  have Hb1 : Hid (Below w.heap.size w w1) := ((Below.refl _ _).alloc (Nat.le_refl _) _).trans (h1.mono (by simp))
  clear h1 h2 HX
  go_wp2_with fail
  go_loopw [2, 7, 8] (fun bv v s wr => ∃ (o : List Nat) (S b : Nat), S ≤ 3 ∧ s = I (S : Int) ∧ bv = I (b : Int) ∧ b < pw (3 - S) ∧ Dig o ∧ o.length ≤ m ∧ val o + pw S * (n * b) = val l + n * b0 ∧ SoC 3 1 w.heap.size o.length (flat 1 (rN o) o.length) v wr ∧ Below w.heap.size w wr) (fun bv _ _ _ => (intOf bv).toNat)
  case atStart => exact ⟨l, 0, b0, by omega, rfl, rfl, hb, HL.out, hlen, by rw [show pw 0 = 1 from rfl, Nat.one_mul], Hso1.out, Hb1.out⟩
  case round =>
    rename World => X
    obtain ⟨o, S, b, hS, rfl, rfl, hbS, ho, hol, hval, hso, hbx⟩ := hrel
    have Hval := Lib.hid hval
    have Ho := Lib.hid ho
    have Hso := Lib.hid hso
    have Hbx := Lib.hid hbx
    clear hval ho hso hbx
    have hp3 : pw (3 - S) ≤ 1000000000000000000 := pw_mono (show 3 - S ≤ 3 by omega)
    by_cases hb1 : 0 < b
    · have f1 : decide ((b : Int) > 0) = true := decide_eq_true (by omega)
      have f2 : IntKind.i64.wrap ((b : Int).tmod 1000000) = ((b % 1000000 : Nat) : Int) := by rw [Int.tmod_eq_emod_of_nonneg (by omega)]; rw [IntWalk.i64_in _ (by omega)]; omega -- IntWalk.i64_in _ (by omega)
      have f3 : IntKind.i64.wrap ((b : Int).tdiv 1000000) = ((b / 1000000 : Nat) : Int) := by rw [Int.tdiv_eq_ediv_of_nonneg (by omega)]; rw [IntWalk.i64_in _ (by omega)]; omega
      obtain ⟨pt, hpt⟩ : ∃ x, b % 1000000 = x := ⟨_, rfl⟩
      obtain ⟨q, hq⟩ : ∃ x, b / 1000000 = x := ⟨_, rfl⟩
      have hpl : pt < 1000000 := by omega
      have hqb : q < b := by omega
      have hbq : b = 1000000 * q + pt := by omega
      rw [hpt] at f2
      rw [hq] at f3
      have Hbq := Lib.hid hbq
      have Hq := Lib.hid hq
      have Hpt := Lib.hid hpt
      have hptb : pt ≤ b := by omega
      have hS3 := pw_one hbS hb1
      clear hpt hq hbq
      go_wp2_with fail
      go_loopw [7, 10, 11, 12] (fun v ca nv kv wr => ∃ (o2 : List Nat) (C N K : Nat), K ≤ m ∧ ca = I (C : Int) ∧ nv = I (N : Int) ∧ kv = I (K : Int) ∧ C ≤ 2000000 ∧ N < pw 3 ∧ N < pw (S + 3 - K) ∧ Dig o2 ∧ o2.length ≤ m ∧ val o2 + pw K * (C + pt * N) = val o + pw S * (pt * n) ∧ SoC 3 1 w.heap.size o2.length (flat 1 (rN o2) o2.length) v wr ∧ Below w.heap.size w wr) (fun _ _ _ kv _ => m - (intOf kv).toNat)
      case atStart => exact ⟨o, 0, n, S, by omega, rfl, rfl, rfl, by omega, hn, by rw [show S + 3 - S = 3 by omega]; exact hn, Ho.out, hol, by rw [Nat.zero_add], Hso.out, Hbx.out⟩
      case round =>
        rename World => Y
        obtain ⟨o2, C, N, K, hK, rfl, rfl, rfl, hC, hN3, hNK, ho2, ho2l, hv2, hso2, hby⟩ := hrel
        have Hv2 := Lib.hid hv2
        have Ho2 := Lib.hid ho2
        have Hso2 := Lib.hid hso2
        have Hby := Lib.hid hby
        clear hv2 ho2 hso2 hby
        by_cases hgo : 0 < N ∨ 0 < C
        · have hK12 : K < m := by
            rcases hgo with h | h
            · have := pw_one hNK h; omega
            · exact carry_k Hv2.out Hval.out hptb HT.out hK h
          by_cases hN0 : N = 0
          · have hC0 : 0 < C := by omega
            clear hgo
            go_wp2_with fail
            have HN0 := Lib.hid hN0
            clear hN0
            go_loopw [7] (fun v wr => ∃ o3 : List Nat, Dig o3 ∧ o3.length ≤ m ∧ val o3 = val o2 ∧ SoC 3 1 w.heap.size o3.length (flat 1 (rN o3) o3.length) v wr ∧ Below w.heap.size w wr) (fun v _ => m - lenV v)
            case atStart => exact ⟨o2, Ho2.out, ho2l, rfl, Hso2.out, Hby.out⟩
            case round =>
              rename World => Z
              obtain ⟨o3, ho3, ho3l, hv3, hso3, hbz⟩ := hrel
              obtain ⟨A3, c3, rfl, _, _, _⟩ := hso3.rd
              have Hv3 := Lib.hid hv3
              have Ho3 := Lib.hid ho3
              have Hso3 := Lib.hid hso3
              have Hbz := Lib.hid hbz
              have hsz := hbz.size
              clear hv3 ho3 hso3 hbz
              by_cases hlk : o3.length ≤ K
              · have g1 : decide ((o3.length : Int) ≤ (K : Int)) = true := decide_eq_true (by omega)
                go_wp2_with (at_builtin; go_loud (refine wpList_app_soc_g rfl _ _ 102 rfl 3 i1 _ 1 8 Tryd.underlying102 hi1 iz1 is1 ib1 rfl (by decide) w.heap.size o3.length (flat 1 (rN o3) o3.length) _ rfl (Hso3.out.over ((Below.refl _ _).alloc (Nat.le_refl _) _)) ⟨Z.heap.size, 0, none⟩ 1 [I 0] rfl (by rfl) (news_lit (cs := #[I 0]) (heap_last _ _ _ rfl)) ?h1 ?hB ?h63 ?hba ?_))
                case h1 => simp [Value.oneCell']
                case hB => simp; omega
                case h63 => omega
                case hba => decide
                intro v4 w4 row own4 hg4 hr4
                rw [← digs_app] at own4
                have Own4 := Lib.hid own4
                have Hb4 : Hid (Below w.heap.size w w4) := (Hbz.out.alloc (by omega) _).grown hg4 (by simp; omega) (fun q hq => by have := (hr4 q hq).1; omega)
                have hlv : Hid (lenV v4 = o3.length + 1) := by
                  rcases own4.2 with ⟨rfl, e1⟩ | ⟨g, cap, cur, rfl, _⟩
                  · exact absurd e1 (by omega)
                  · rfl
                clear own4 hg4 hr4
                go_wp2_with fail
                go_roundw
                case rel => exact ⟨o3 ++ [0], Ho3.out.app, by simp; omega, by rw [val_app_zero, Hv3.out], .inr (by rw [List.length_append]; exact Own4.out), Hb4.out⟩
                case measure => show m - lenV v4 < m - o3.length; rw [hlv.out]; omega
              · have g1 : decide ((o3.length : Int) ≤ (K : Int)) = false := decide_eq_false (by omega)
                have hlk' : K < o3.length := by omega
                obtain ⟨_, _, hown⟩ | hown := Hso3.out
                · omega
                obtain ⟨g, cap, hv, hgB, hcell, hfr, hst⟩ := own_open hown hlk'
                injection hv with hA _ hc3
                subst hA hc3
                have hdl := Ho3.out.at hlk'
                have hsv := step_val (out := o3) (k := K) (carry := C) (part := pt) (n := N) hlk'
                have hnm : N % 1000000 < 1000000 := Nat.mod_lt _ (by decide)
                obtain ⟨dg, hdg⟩ : ∃ x, at0 o3 K = x := ⟨_, rfl⟩
                obtain ⟨r, hr⟩ : ∃ x, N % 1000000 = x := ⟨_, rfl⟩
                rw [hdg] at hcell hdl
                rw [hdg, hr] at hsv
                rw [hr] at hnm
                have hmul : pt * r ≤ 999999 * 999999 := Nat.mul_le_mul (by omega) (by omega)
                obtain ⟨pr, hpr⟩ : ∃ x, pt * r = x := ⟨_, rfl⟩
                rw [hpr] at hsv hmul
                have hprI : (pt : Int) * (r : Int) = (pr : Int) := by rw [← hpr]; exact (Int.natCast_mul pt r).symm
                have hp3 : pw 3 = 1000000000000000000 := rfl
                rw [hp3] at hN3
                have m1 : Int.tmod (N : Int) 1000000 = (r : Int) := by rw [Int.tmod_eq_emod_of_nonneg (by omega)]; omega
                have hb6 : (b : Int) % 1000000 = (pt : Int) := by have := Hpt.out; omega
                have m2 : IntKind.i64.wrap ((b : Int) % 1000000 * (r : Int)) = (pr : Int) := by rw [hb6, hprI]; exact IntWalk.i64_in _ (by omega)
                have m3 : IntKind.i64.wrap ((dg : Int) + (pr : Int)) = (dg : Int) + (pr : Int) := IntWalk.i64_in _ (by omega)
                have m4 : IntKind.i64.wrap ((C : Int) + ((dg : Int) + (pr : Int))) = (C : Int) + ((dg : Int) + (pr : Int)) := IntWalk.i64_in _ (by omega)
                have m5 : IntKind.i64.wrap ((K : Int) + 1) = (K : Int) + 1 := IntWalk.i64_in _ (by omega)
                obtain ⟨cd, hcd⟩ : ∃ x, (C + (dg + pr)) / 1000000 = x := ⟨_, rfl⟩
                obtain ⟨cm, hcm⟩ : ∃ x, (C + (dg + pr)) % 1000000 = x := ⟨_, rfl⟩
                have m6 : Int.tdiv ((C : Int) + ((dg : Int) + (pr : Int))) 1000000 = (cd : Int) := by rw [Int.tdiv_eq_ediv_of_nonneg (by omega)]; omega
                have m7 : Int.tmod ((C : Int) + ((dg : Int) + (pr : Int))) 1000000 = (cm : Int) := by rw [Int.tmod_eq_emod_of_nonneg (by omega)]; omega
                have m8 : IntKind.i64.wrap ((N : Int) / 1000000) = (N : Int) / 1000000 := IntWalk.i64_in _ (by omega)
                have hcdb : cd ≤ 2000000 := by omega
                have hcmb : cm < 1000000 := by omega
                have m9 : IntKind.i64.wrap (cd : Int) = (cd : Int) := IntWalk.i64_in _ (by omega)
                have m10 : IntKind.i64.wrap (cm : Int) = (cm : Int) := IntWalk.i64_in _ (by omega)
                have k0 : decide (0 ≤ (K : Int)) = true := decide_eq_true (by omega)
                rw [hcd, hcm] at hsv
                have Hsv := Lib.hid hsv
                have Hst := Lib.hid hst
                clear hsv hst hr hpr hdg hown hcd hcm hb6 hprI
                go_wp2_with fail
                go_roundw
                case rel => exact ⟨o3.set K cm, cd, N / 1000000, K + 1, by omega, rfl, congrArg (Value.int .i64) (show (N : Int) / 1000000 = ((N / 1000000 : Nat) : Int) by omega), rfl, hcdb, by rw [hp3]; omega, pw_div' hNK, Ho3.out.set hcmb, by rw [List.length_set]; exact ho3l, by rw [Hsv.out, Hv3.out, Hv2.out], by first | exact .inr (Hst.out cm) | (have hh := Hst.out cm; rw [List.length_set] at hh ⊢; exact .inr hh), Hbz.out.setCell (p := ⟨g, K, none⟩) (by show w.heap.size ≤ g; omega) _⟩
                case measure => show m - ((K : Int) + 1).toNat < m - (K : Int).toNat; omega
          · clear hgo
            go_wp2_with fail
            have HN0 := Lib.hid hN0
            clear hN0
            go_loopw [7] (fun v wr => ∃ o3 : List Nat, Dig o3 ∧ o3.length ≤ m ∧ val o3 = val o2 ∧ SoC 3 1 w.heap.size o3.length (flat 1 (rN o3) o3.length) v wr ∧ Below w.heap.size w wr) (fun v _ => m - lenV v)
            case atStart => exact ⟨o2, Ho2.out, ho2l, rfl, Hso2.out, Hby.out⟩
            case round =>
              rename World => Z
              obtain ⟨o3, ho3, ho3l, hv3, hso3, hbz⟩ := hrel
              obtain ⟨A3, c3, rfl, _, _, _⟩ := hso3.rd
              have Hv3 := Lib.hid hv3
              have Ho3 := Lib.hid ho3
              have Hso3 := Lib.hid hso3
              have Hbz := Lib.hid hbz
              have hsz := hbz.size
              clear hv3 ho3 hso3 hbz
              by_cases hlk : o3.length ≤ K
              · have g1 : decide ((o3.length : Int) ≤ (K : Int)) = true := decide_eq_true (by omega)
                go_wp2_with (at_builtin; go_loud (refine wpList_app_soc_g rfl _ _ 102 rfl 3 i1 _ 1 8 Tryd.underlying102 hi1 iz1 is1 ib1 rfl (by decide) w.heap.size o3.length (flat 1 (rN o3) o3.length) _ rfl (Hso3.out.over ((Below.refl _ _).alloc (Nat.le_refl _) _)) ⟨Z.heap.size, 0, none⟩ 1 [I 0] rfl (by rfl) (news_lit (cs := #[I 0]) (heap_last _ _ _ rfl)) ?h1 ?hB ?h63 ?hba ?_))
                case h1 => simp [Value.oneCell']
                case hB => simp; omega
                case h63 => omega
                case hba => decide
                intro v4 w4 row own4 hg4 hr4
                rw [← digs_app] at own4
                have Own4 := Lib.hid own4
                have Hb4 : Hid (Below w.heap.size w w4) := (Hbz.out.alloc (by omega) _).grown hg4 (by simp; omega) (fun q hq => by have := (hr4 q hq).1; omega)
                have hlv : Hid (lenV v4 = o3.length + 1) := by
                  rcases own4.2 with ⟨rfl, e1⟩ | ⟨g, cap, cur, rfl, _⟩
                  · exact absurd e1 (by omega)
                  · rfl
                clear own4 hg4 hr4
                go_wp2_with fail
                go_roundw
                case rel => exact ⟨o3 ++ [0], Ho3.out.app, by simp; omega, by rw [val_app_zero, Hv3.out], .inr (by rw [List.length_append]; exact Own4.out), Hb4.out⟩
                case measure => show m - lenV v4 < m - o3.length; rw [hlv.out]; omega
              · have g1 : decide ((o3.length : Int) ≤ (K : Int)) = false := decide_eq_false (by omega)
                have hlk' : K < o3.length := by omega
                obtain ⟨_, _, hown⟩ | hown := Hso3.out
                · omega
                obtain ⟨g, cap, hv, hgB, hcell, hfr, hst⟩ := own_open hown hlk'
                injection hv with hA _ hc3
                subst hA hc3
                have hdl := Ho3.out.at hlk'
                have hsv := step_val (out := o3) (k := K) (carry := C) (part := pt) (n := N) hlk'
                have hnm : N % 1000000 < 1000000 := Nat.mod_lt _ (by decide)
                obtain ⟨dg, hdg⟩ : ∃ x, at0 o3 K = x := ⟨_, rfl⟩
                obtain ⟨r, hr⟩ : ∃ x, N % 1000000 = x := ⟨_, rfl⟩
                rw [hdg] at hcell hdl
                rw [hdg, hr] at hsv
                rw [hr] at hnm
                have hmul : pt * r ≤ 999999 * 999999 := Nat.mul_le_mul (by omega) (by omega)
                obtain ⟨pr, hpr⟩ : ∃ x, pt * r = x := ⟨_, rfl⟩
                rw [hpr] at hsv hmul
                have hprI : (pt : Int) * (r : Int) = (pr : Int) := by rw [← hpr]; exact (Int.natCast_mul pt r).symm
                have hp3 : pw 3 = 1000000000000000000 := rfl
                rw [hp3] at hN3
                have m1 : Int.tmod (N : Int) 1000000 = (r : Int) := by rw [Int.tmod_eq_emod_of_nonneg (by omega)]; omega
                have hb6 : (b : Int) % 1000000 = (pt : Int) := by have := Hpt.out; omega
                have m2 : IntKind.i64.wrap ((b : Int) % 1000000 * (r : Int)) = (pr : Int) := by rw [hb6, hprI]; exact IntWalk.i64_in _ (by omega)
                have m3 : IntKind.i64.wrap ((dg : Int) + (pr : Int)) = (dg : Int) + (pr : Int) := IntWalk.i64_in _ (by omega)
                have m4 : IntKind.i64.wrap ((C : Int) + ((dg : Int) + (pr : Int))) = (C : Int) + ((dg : Int) + (pr : Int)) := IntWalk.i64_in _ (by omega)
                have m5 : IntKind.i64.wrap ((K : Int) + 1) = (K : Int) + 1 := IntWalk.i64_in _ (by omega)
                obtain ⟨cd, hcd⟩ : ∃ x, (C + (dg + pr)) / 1000000 = x := ⟨_, rfl⟩
                obtain ⟨cm, hcm⟩ : ∃ x, (C + (dg + pr)) % 1000000 = x := ⟨_, rfl⟩
                have m6 : Int.tdiv ((C : Int) + ((dg : Int) + (pr : Int))) 1000000 = (cd : Int) := by rw [Int.tdiv_eq_ediv_of_nonneg (by omega)]; omega
                have m7 : Int.tmod ((C : Int) + ((dg : Int) + (pr : Int))) 1000000 = (cm : Int) := by rw [Int.tmod_eq_emod_of_nonneg (by omega)]; omega
                have m8 : IntKind.i64.wrap ((N : Int) / 1000000) = (N : Int) / 1000000 := IntWalk.i64_in _ (by omega)
                have hcdb : cd ≤ 2000000 := by omega
                have hcmb : cm < 1000000 := by omega
                have m9 : IntKind.i64.wrap (cd : Int) = (cd : Int) := IntWalk.i64_in _ (by omega)
                have m10 : IntKind.i64.wrap (cm : Int) = (cm : Int) := IntWalk.i64_in _ (by omega)
                have k0 : decide (0 ≤ (K : Int)) = true := decide_eq_true (by omega)
                rw [hcd, hcm] at hsv
                have Hsv := Lib.hid hsv
                have Hst := Lib.hid hst
                clear hsv hst hr hpr hdg hown hcd hcm hb6 hprI
                go_wp2_with fail
                go_roundw
                case rel => exact ⟨o3.set K cm, cd, N / 1000000, K + 1, by omega, rfl, congrArg (Value.int .i64) (show (N : Int) / 1000000 = ((N / 1000000 : Nat) : Int) by omega), rfl, hcdb, by rw [hp3]; omega, pw_div' hNK, Ho3.out.set hcmb, by rw [List.length_set]; exact ho3l, by rw [Hsv.out, Hv3.out, Hv2.out], by first | exact .inr (Hst.out cm) | (have hh := Hst.out cm; rw [List.length_set] at hh ⊢; exact .inr hh), Hbz.out.setCell (p := ⟨g, K, none⟩) (by show w.heap.size ≤ g; omega) _⟩
                case measure => show m - ((K : Int) + 1).toNat < m - (K : Int).toNat; omega
        · have e1 : decide ((N : Int) > 0) = false := decide_eq_false (by omega)
          have e2 : decide ((C : Int) > 0) = false := decide_eq_false (by omega)
          have f4 : IntKind.i64.wrap ((S : Int) + 1) = (S : Int) + 1 := IntWalk.i64_in _ (by omega)
          obtain ⟨rfl, rfl⟩ : N = 0 ∧ C = 0 := by omega
          clear hgo e1 e2
          go_wp2_with fail
          go_roundw
          case rel =>
            have hj := sum_join Hv2.out Hval.out Hbq.out
            rw [← Hq.out] at hj
            exact ⟨o2, S + 1, b / 1000000, by omega, rfl, congrArg (Value.int .i64) (show (b : Int) / 1000000 = ((b / 1000000 : Nat) : Int) by omega), pw_div' hbS, Ho2.out, ho2l, hj, Hso2.out, Hby.out⟩
          case measure => show ((b : Int) / 1000000).toNat < (b : Int).toNat; omega
    · have f1 : decide ((b : Int) > 0) = false := decide_eq_false (by omega)
      obtain rfl : b = 0 := by omega
      go_wp2_with fail
      go_ret
      exact ⟨_, o, rfl, Ho.out, hol, by have := Hval.out; simpa using this, Hso.out, Hbx.out⟩
end Go.Proofs.YtfifdfagikbahaaDoor
/- A row put behind a literal of one cell. -/
namespace Go.Proofs.YtfifdfagikbahaaDoor
open Go.RowKit
attribute [local go_sem] Oper.semAt_some
theorem run_app_pre {P : Program} (w : World) (t ty e : TypeId) (i : TypeInfo) (z : Value) (bytes : Nat) (ht : P.underlying t = some (.slice e)) (hi : P.info? e = some i) (hz : i.zero = some z) (hsz : i.size = 1) (hby : i.bytes = bytes) (hzs : z.cells.size = 1)
    (B zb : Nat) (u : Value) (hzb : w.heap[zb]? = some (.cells #[u] e (0, 0))) (hB : B ≤ zb) (A : Option Addr) (n c : Nat) (g : Nat → Nat → Value) (hr : Rd w w.heap.size 1 A n g) (hn : n ≤ 1000000) (hb : bytes ≤ 1000000) :
    ∃ v' w', (Builtin.append_ #[t, t] ty #[.slice (some ⟨zb, 0, none⟩) 1 1, .slice A n c]).run P w = .ok v' w' ∧ Below w.heap.size w w' ∧ w'.ownsRow B e 1 v' (n + 1) ([u] ++ flat 1 g n) := by
  have hzl : zb < w.heap.size := (Array.getElem?_eq_some_iff.1 hzb).1
  by_cases hn0 : n = 0
  · subst hn0
    refine ⟨.slice (some ⟨zb, 0, none⟩) 1 1, w, ?_, Below.refl _ _, ?_⟩
    · cases A <;> simp [go_sem, Builtin.append_, run_underlying ht, sizeOf, typeInfo, hi, Builtin.lenOf, Builtin.firstCells, storeCells]
    · have := own_lit (base := B) hzb rfl hB
      simpa [flat] using this
  · obtain ⟨b2, o2, hA, _, hc⟩ := hr (by omega)
    subst hA
    have hm : (1 + n) * bytes ≤ 1000001 * 1000000 := Nat.mul_le_mul (by omega) hb
    obtain ⟨v', w', hrun, hown, hgr⟩ := run_append_arg_grows (P := P) w t ty e i z 1 bytes ht hi hz hsz hby hzs (by decide) ⟨zb, 0, none⟩ 1 1 [u] (by simp) (fun j x hj => by
      rcases j with _ | j
      · cases hj
        exact (cell_of_row _ _ 0 _ _ _ hzb).trans rfl
      · simp at hj) ⟨b2, o2, none⟩ n c (flat 1 g n) (flat_len _ _ _) (Rd.flat_at hc (by decide)) (by omega) (by unfold maxLen; omega) (by omega)
    rw [Nat.add_comm 1 n] at hown
    exact ⟨v', w', hrun, (Below.refl _ _).grown hgr (Nat.le_refl _) (fun g hg => by cases hg), own_base hown (by omega)⟩
theorem wpList_app_pre {P : Program} {ops : Array Oper} {rest : List Oper} {o : Oper} {a : Act} {w : World} {Q : Exit → Act → World → Prop} (hg : o.guard = none) (s x : Operand) (t : TypeId) (ho : o.op = .call { callee := .builtin .append, args := #[s, x], argTypes := #[t, t] })
    (e : TypeId) (i : TypeInfo) (z : Value) (bytes : Nat) (ht : P.underlying t = some (.slice e)) (hi : P.info? e = some i) (hz : i.zero = some z) (hsz : i.size = 1) (hby : i.bytes = bytes) (hzs : z.cells.size = 1)
    (B zb : Nat) (u : Value) (hs : a.eval s = .slice (some ⟨zb, 0, none⟩) 1 1) (A : Option Addr) (n c : Nat) (hx : a.eval x = .slice A n c) (g : Nat → Nat → Value) (hzb : w.heap[zb]? = some (.cells #[u] e (0, 0))) (hB : B ≤ zb) (hr : Rd w w.heap.size 1 A n g) (hn : n ≤ 1000000) (hb : bytes ≤ 1000000)
    (hK : ∀ v' w', Below w.heap.size w w' → w'.ownsRow B e 1 v' (n + 1) ([u] ++ flat 1 g n) → wpList P ops Q rest (a.put o.dst v') w') : wpList P ops Q (o :: rest) a w := by
  refine wpList_plain hg fun K hK' => ?_
  obtain ⟨v', w', hrun, h1, h2⟩ := run_app_pre (P := P) w t o.type e i z bytes ht hi hz hsz hby hzs B zb u hzb hB A n c g hr hn hb
  unfold Oper.wp
  simp [execOp, ho, resolve, invoke, builtin, hs, hx, hrun, Result.andThen]
  exact hK' _ _ (hK v' w' h1 h2)
end Go.Proofs.YtfifdfagikbahaaDoor
/- product of the reference. -/
namespace Go.Proofs.YtfifdfagikbahaaDoor
open Go.RowKit
attribute [local go_sem] Oper.semAt_some
theorem pw_add (a b : Nat) : pw (a + b) = pw a * pw b := Nat.pow_add ..
theorem val_drop_lt {l : List Nat} (h : Dig l) (k : Nat) : val (l.drop k) < pw (l.length - k) := by
  have := val_lt (l.drop k) fun x hx => h x (List.mem_of_mem_drop hx)
  rwa [List.length_drop] at this
theorem prod_lt {l : List Nat} (h : Dig l) (k n : Nat) (hn : n < pw 3) : val (l.drop k) * n < pw (6 + (l.length - k)) := by
  have h1 := val_drop_lt h k
  have h2 : val (l.drop k) * n ≤ pw (l.length - k) * pw 3 := Nat.mul_le_mul (by omega) (by omega)
  rw [← pw_add] at h2
  have h3 : pw (l.length - k + 3 + 1) ≤ pw (6 + (l.length - k)) := pw_mono (by omega)
  rw [pw_succ] at h3
  have := pw_pos (l.length - k + 3)
  omega
set_option maxHeartbeats 2000000 in
set_option maxRecDepth 6000 in
theorem productD_any (l : List Nat) (n : Nat) (A : Option Addr) (c B : Nat) (w : World) (hl : Dig l) (hlen : l.length ≤ 6) (hn : n < pw 3) (hB : B ≤ w.heap.size) (hx : Rd w B 1 A l.length (rN l)) :
    Calls Tryd.prog 79 #[.slice A l.length c, I (n : Int)] w fun e w' => ∃ v o, e = .returned v ∧ Dig o ∧ o.length ≤ 12 ∧ val o = val l * n ∧ SoC 3 1 w.heap.size o.length (flat 1 (rN o) o.length) v w' ∧ Below w.heap.size w w' := by
  have hmm := @run_makeMap Tryd.prog
  obtain ⟨i1, hi1, iz1, is1, ib1⟩ := info_parts int_info
  have HX := Lib.hid hx
  have HL := Lib.hid hl
  have w0 : IntKind.i64.wrap ((l.length : Int) - 1) = (l.length : Int) - 1 := IntWalk.i64_in _ (by omega)
  clear hx hl
  go_enter Tryd.func79, Tryd.ntmps79
  go_wp2_with fail
  go_loopw [5, 6] (fun v i wr => ∃ (o : List Nat) (k : Nat), k ≤ l.length ∧ i = .int .i64 ((k : Int) - 1) ∧ Dig o ∧ o.length ≤ 6 + (l.length - k) ∧ val o = val (l.drop k) * n ∧ SoC 3 1 w.heap.size o.length (flat 1 (rN o) o.length) v wr ∧ Below w.heap.size w wr) (fun _ i _ => (intOf i + 1).toNat)
  case atStart => exact ⟨[], l.length, Nat.le_refl _, rfl, (fun x hx => by cases hx), by simp, by rw [drop_end (Nat.le_refl _), Nat.zero_mul]; rfl, .inl ⟨rfl, rfl, _, rfl⟩, (Below.refl _ _).alloc (Nat.le_refl _) _⟩
  case round =>
    rename World => X
    obtain ⟨o, k, hk, rfl, ho, hol, hv, hso, hbx⟩ := hrel
    obtain ⟨A3, c3, rfl, _, _, hrd⟩ := hso.rd
    have Hv := Lib.hid hv
    have Ho := Lib.hid ho
    have Hrd := Lib.hid hrd
    have Hso := Lib.hid hso
    have Hbx := Lib.hid hbx
    have hsz := hbx.size
    clear hv ho hrd hso hbx
    rcases k with _ | k
    · go_wp2_with fail
      go_ret
      exact ⟨_, o, rfl, Ho.out, by omega, by rw [Hv.out, List.drop_zero], Hso.out, Hbx.out⟩
    · rw [show ((k + 1 : Nat) : Int) - 1 = (k : Int) by omega]
      have k0 : decide (0 ≤ (k : Int)) = true := decide_eq_true (by omega)
      have k3 : k < l.length := by omega
      have k4 : decide ((k : Int) < (l.length : Int)) = true := decide_eq_true (by omega)
      go_wp2_with (at_builtin; go_loud (refine wpList_app_pre rfl _ _ 102 rfl 3 i1 _ 8 Tryd.underlying102 hi1 iz1 is1 ib1 rfl w.heap.size X.heap.size (I 0) rfl A3 o.length c3 rfl (rN o) (heap_last _ _ _ rfl) ?hBz ?hr ?hn (by decide) ?_))
      case hBz => omega
      case hr => exact (Hrd.out.alloc (Nat.le_refl _) _).more (by simp)
      case hn => omega
      intro v4 w4 hb4 own4
      have own4 : w4.ownsRow w.heap.size 3 1 v4 (o.length + 1) (flat 1 (rN (0 :: o)) (o.length + 1)) := by rw [digs_cons]; exact own4
      have Hb4 : Hid (Below w.heap.size w w4) := (Hbx.out.alloc (by omega) _).trans (hb4.mono (by first | omega | (simp; omega)))
      have hs4 : SoC 3 1 w.heap.size (0 :: o).length (flat 1 (rN (0 :: o)) (0 :: o).length) v4 w4 := .inr own4
      obtain ⟨A4, c4, rfl, _, _, hr4⟩ := hs4.rd
      have Hr4 := Lib.hid hr4
      clear hb4 own4 hs4 hr4
      obtain ⟨b1, o1, rfl, ya⟩ := (HX.out.below (Hb4.out.mono hB)).num k3
      have hdk := HL.out.at k3
      have hvd := val_drop l k k3
      obtain ⟨d, hd⟩ : ∃ x, at0 l k = x := ⟨_, rfl⟩
      rw [hd] at ya hdk hvd
      have hpl := prod_lt HL.out k n hn
      have hval : val (0 :: o) + d * n = val (l.drop k) * n := by
        show 0 + 1000000 * val o + d * n = _
        rw [Hv.out, hvd, Nat.add_mul, Nat.mul_assoc]; omega
      have hz4 := Hb4.out.size
      have hdg0 : Dig (0 :: o) := fun x hx => by
        rcases List.mem_cons.1 hx with rfl | h
        · decide
        · exact Ho.out x h
      have hcall := sumsD_any (6 + (l.length - k)) (by omega) (by omega) (0 :: o) d n A4 c4 w4.heap.size w4 hdg0 (by simp; omega) (Nat.lt_of_lt_of_le hdk (show 1000000 ≤ pw 3 by decide)) hn (by rw [hval]; exact hpl) (Nat.le_refl _) Hr4.out
      rw [hval] at hcall
      have Hcall := Lib.hid hcall
      have w1 : IntKind.i64.wrap ((k : Int) - 1) = (k : Int) - 1 := IntWalk.i64_in _ (by omega)
      have Hpl := Lib.hid hpl
      clear hcall hval hvd hd hpl
      go_wp2_with fail
      refine Hcall.out.mono ?_
      rintro e w5 ⟨v5, o5, rfl, ho5, hl5, hv5, hs5, hb5⟩
      have Hs5 := Lib.hid (hs5.base hz4)
      have Hb5 : Hid (Below w.heap.size w w5) := Hb4.out.trans (hb5.mono hz4)
      have Hv5 := Lib.hid hv5
      clear hs5 hb5 hv5
      go_wp2_with fail
      go_roundw
      case rel => exact ⟨o5, k, by omega, rfl, ho5, hl5, Hv5.out, Hs5.out, Hb5.out⟩
      case measure => show ((k : Int) - 1 + 1).toNat < ((k : Int) + 1).toNat; omega
end Go.Proofs.YtfifdfagikbahaaDoor
/- Feeds of the reference. -/
namespace Go.Proofs.YtfifdfagikbahaaDoor
open Go.RowKit
attribute [local go_sem] Oper.semAt_some
theorem pw6 : pw 6 = 1000000000000000000000000000000000000 := rfl
theorem pw3 : pw 3 = 1000000000000000000 := rfl
set_option maxHeartbeats 2000000 in
set_option maxRecDepth 6000 in
theorem feedsD_any (sh ct fd bd ms x : Nat) (w : World) (h1 : sh ≤ 1000000000) (h2 : ct ≤ 1000000000000) (h3 : fd ≤ 1000000000) (h4 : bd ≤ 1000000000) (h5 : ms ≤ 1000000000) (h6 : x ≤ 1000000000) :
    Calls Tryd.prog 56 #[I (sh : Int), I (ct : Int), I (fd : Int), I (bd : Int), I (ms : Int), I (x : Int)] w fun e w' => e = .returned (I (cm2 ((ct * 1000000 + fd * x) * sh) (bd * (ms + x) * 10000))) ∧ Below w.heap.size w w' := by
  have hfx : fd * x ≤ 1000000000 * 1000000000 := Nat.mul_le_mul h3 h6
  have hbx : bd * (ms + x) ≤ 1000000000 * 2000000000 := Nat.mul_le_mul h4 (by omega)
  have hd0 : Dig [] := fun x hx => by cases hx
  have c1 := sumsD_any 6 (by decide) (by decide) [] ct 1000000 none 0 w.heap.size w hd0 (by decide) (by rw [pw3]; omega) (by rw [pw3]; omega) (by rw [pw6]; show 0 + _ < _; omega) (Nat.le_refl _) Rd.nil
  have C1 := Lib.hid c1
  have w1 : IntKind.i64.wrap ((ms : Int) + (x : Int)) = ((ms + x : Nat) : Int) := by rw [IntWalk.i64_in _ (by omega)]; omega
  clear c1
  go_enter Tryd.func56, Tryd.ntmps56
  go_wp2_with fail
  refine C1.out.mono ?_
  rintro e W1 ⟨v1, o1, rfl, ho1, hl1, hv1, hs1, hb1⟩
  have hv1' : val o1 = ct * 1000000 := by rw [hv1]; show 0 + _ = _; omega
  obtain ⟨A1, k1, rfl, _, _, hr1⟩ := hs1.rd
  have C2 := Lib.hid (sumsD_any 6 (by decide) (by decide) o1 fd x A1 k1 W1.heap.size W1 ho1 hl1 (by rw [pw3]; omega) (by rw [pw3]; omega) (by rw [hv1', pw6]; omega) (Nat.le_refl _) hr1)
  have Hb1 := Lib.hid hb1
  have z1 := hb1.size
  clear hb1 hs1 hr1 C1 hv1
  go_wp2_with fail
  refine C2.out.mono ?_
  rintro e W2 ⟨v2, o2, rfl, ho2, hl2, hv2, hs2, hb2⟩
  rw [hv1'] at hv2
  obtain ⟨A2, k2, rfl, _, _, hr2⟩ := hs2.rd
  have C3 := Lib.hid (productD_any o2 sh A2 k2 W2.heap.size W2 ho2 hl2 (by rw [pw3]; omega) (Nat.le_refl _) hr2)
  have Hb2 : Hid (Below w.heap.size w W2) := Hb1.out.trans (hb2.mono z1)
  have z2 := Hb2.out.size
  clear hb2 hs2 hr2 C2
  go_wp2_with fail
  refine C3.out.mono ?_
  rintro e W3 ⟨v3, o3, rfl, ho3, hl3, hv3, hs3, hb3⟩
  rw [hv2] at hv3
  obtain ⟨A3, k3, rfl, _, _, hr3⟩ := hs3.rd
  have Hb3 : Hid (Below w.heap.size w W3) := Hb2.out.trans (hb3.mono z2)
  have z3 := Hb3.out.size
  have C4 := Lib.hid (sumsD_any 6 (by decide) (by decide) [] bd (ms + x) none 0 W3.heap.size W3 hd0 (by decide) (by rw [pw3]; omega) (by rw [pw3]; omega) (by rw [pw6]; show 0 + _ < _; omega) (Nat.le_refl _) Rd.nil)
  have Hr3 := Lib.hid hr3
  clear hb3 hs3 hr3 C3
  go_wp2_with fail
  refine C4.out.mono ?_
  rintro e W4 ⟨v4, o4, rfl, ho4, hl4, hv4, hs4, hb4⟩
  have hv4' : val o4 = bd * (ms + x) := by rw [hv4]; show 0 + _ = _; omega
  obtain ⟨A4, k4, rfl, _, _, hr4⟩ := hs4.rd
  have C5 := Lib.hid (productD_any o4 10000 A4 k4 W4.heap.size W4 ho4 hl4 (by rw [pw3]; omega) (Nat.le_refl _) hr4)
  have Hr3b := Lib.hid (Hr3.out.below hb4)
  have Hb4 : Hid (Below w.heap.size w W4) := Hb3.out.trans (hb4.mono z3)
  have z4 := hb4.size
  clear hb4 hs4 hr4 C4 Hr3 hv4
  go_wp2_with fail
  refine C5.out.mono ?_
  rintro e W5 ⟨v5, o5, rfl, ho5, hl5, hv5, hs5, hb5⟩
  rw [hv4'] at hv5
  obtain ⟨A5, k5, rfl, _, _, hr5⟩ := hs5.rd
  have z5 := hb5.size
  have C6 := compareD_any o3 o5 A3 A5 k3 k5 W5.heap.size W5 ho3 ho5 (by omega) (by omega) (Nat.le_refl _) ((Hr3b.out.below (hb5.mono z4)).more (by omega)) hr5
  rw [hv3, hv5] at C6
  have C6' := Lib.hid C6
  have Hb5 : Hid (Below w.heap.size w W5) := Hb4.out.trans (hb5.mono (by omega))
  have z6 := Hb5.out.size
  clear hb5 hs5 hr5 C5 C6 hv5 hv3
  go_wp2_with fail
  refine C6'.out.mono ?_
  rintro e W6 ⟨rfl, hb6⟩
  have Hb6 : Hid (Below w.heap.size w W6) := Hb5.out.trans (hb6.mono z6)
  clear hb6
  go_wp2_with fail
  go_ret
  exact ⟨rfl, Hb6.out⟩
end Go.Proofs.YtfifdfagikbahaaDoor
