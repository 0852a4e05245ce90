/- Sums of the reference. -/
import Derived.Test.YtfifdfagikbahaaDoorNq
namespace Go.Proofs.YtfifdfagikbahaaDoor
open Go.RowKit
attribute [local go_sem] Oper.semAt_some
def lenV : Value → Nat
  | .slice _ n _ => n
  | _ => 0
theorem SoC.base {e : TypeId} {sz B B' n : Nat} {l : List Value} {v : Value} {w : World} (h : SoC e sz B n l v w) (hb : B' ≤ B) : SoC e sz B' n l v w := h.imp id fun ho => own_base ho hb
theorem pw_div {b k : Nat} (h : b < pw (k + 1)) : b / 1000000 < pw k := by
  rw [pw_succ] at h; omega
theorem pw_div' {b m k : Nat} (h : b < pw (m - k)) : b / 1000000 < pw (m - (k + 1)) := by
  rcases Nat.eq_zero_or_pos (m - k) with h0 | h0
  · rw [h0] at h
    have : b < 1 := h
    have := pw_pos (m - (k + 1))
    omega
  · exact pw_div (by rw [show m - (k + 1) + 1 = m - k by omega]; exact h)
theorem pw_one {b m k : Nat} (h : b < pw (m - k)) (hb : 0 < b) : k < m := by
  rcases Nat.eq_zero_or_pos (m - k) with h0 | h0
  · rw [h0] at h
    have : b < 1 := h
    omega
  · omega
theorem sum_join {v2 v S K n b q pt T : Nat} (h1 : v2 + pw K * (0 + pt * 0) = v + pw S * (pt * n)) (h2 : v + pw S * (n * b) = T) (h3 : b = 1000000 * q + pt) : v2 + pw (S + 1) * (n * q) = T := by
  subst h3
  have e : pw S * (n * (1000000 * q + pt)) = pw (S + 1) * (n * q) + pw S * (pt * n) := by
    rw [Nat.mul_add, Nat.mul_add, pw_succ, Nat.mul_comm pt n, Nat.mul_left_comm n, Nat.mul_left_comm (pw S), Nat.mul_assoc]
  simp only [Nat.mul_zero, Nat.add_zero] at h1
  omega
theorem carry_k {v2 v S K C n N b pt T m : Nat} (h1 : v2 + pw K * (C + pt * N) = v + pw S * (pt * n)) (h2 : v + pw S * (n * b) = T) (h3 : pt ≤ b) (hT : T < pw m) (hK : K ≤ m) (hC : 0 < C) : K < m := by
  rcases Nat.lt_or_ge K m with h | h
  · exact h
  · obtain rfl : K = m := by omega
    have e1 : pw K * 1 ≤ pw K * (C + pt * N) := Nat.mul_le_mul_left _ (by omega)
    have e2 : pw S * (pt * n) ≤ pw S * (n * b) := Nat.mul_le_mul_left _ (by rw [Nat.mul_comm pt n]; exact Nat.mul_le_mul_left _ h3)
    omega
set_option maxHeartbeats 2000000 in
set_option maxRecDepth 6000 in
theorem sumsD_any (m : Nat) (hm6 : 6 ≤ m) (hm12 : m ≤ 12) (l : List Nat) (n b0 : Nat) (A : Option Addr) (c B : Nat) (w : World) (hl : Dig l) (hlen : l.length ≤ m) (hn : n < pw 3) (hb : b0 < pw 3) (hT : val l + n * b0 < pw m) (hB : B ≤ w.heap.size) (hx : Rd w B 1 A l.length (rN l)) :
    Calls Tryd.prog 80 #[.slice A l.length c, I (n : Int), I (b0 : Int)] w fun e w' => ∃ v o, e = .returned v ∧ Dig o ∧ o.length ≤ m ∧ val o = val l + n * b0 ∧ SoC 3 1 w.heap.size o.length (flat 1 (rN o) o.length) v w' ∧ Below w.heap.size w w' := by
  have hmm := @run_makeMap Tryd.prog
  obtain ⟨i1, hi1, iz1, is1, ib1⟩ := info_parts int_info
  have HX := Lib.hid hx
  have HT := Lib.hid hT
  have HL := Lib.hid hl
  clear hx hT hl
  go_enter Tryd.func80, Tryd.ntmps80
  go_wp2_with (at_builtin; go_loud (refine wpList_app_lit_soc rfl _ _ 102 rfl 3 i1 _ 1 8 Tryd.underlying102 hi1 iz1 is1 ib1 rfl (by decide) _ rfl A l.length c rfl (rN l) ?hr ?hn (by decide) ?_))
  case hr => exact (HX.out.alloc hB _).more (by simp; omega)
  case hn => omega
  intro v0 w1 h1 h2
  have Hso1 := Lib.hid (h2.base (show w.heap.size ≤ _ by simp))
  have Hb1 : Hid (Below w.heap.size w w1) := ((Below.refl _ _).alloc (Nat.le_refl _) _).trans (h1.mono (by simp))
  clear h1 h2 HX
  go_wp2_with fail
  go_loopw [2, 7, 8] (fun bv v s wr => ∃ (o : List Nat) (S b : Nat), S ≤ 3 ∧ s = I (S : Int) ∧ bv = I (b : Int) ∧ b < pw (3 - S) ∧ Dig o ∧ o.length ≤ m ∧ val o + pw S * (n * b) = val l + n * b0 ∧ SoC 3 1 w.heap.size o.length (flat 1 (rN o) o.length) v wr ∧ Below w.heap.size w wr) (fun bv _ _ _ => (intOf bv).toNat)
  case atStart => exact ⟨l, 0, b0, by omega, rfl, rfl, hb, HL.out, hlen, by rw [show pw 0 = 1 from rfl, Nat.one_mul], Hso1.out, Hb1.out⟩
  case round =>
    rename World => X
    obtain ⟨o, S, b, hS, rfl, rfl, hbS, ho, hol, hval, hso, hbx⟩ := hrel
    have Hval := Lib.hid hval
    have Ho := Lib.hid ho
    have Hso := Lib.hid hso
    have Hbx := Lib.hid hbx
    clear hval ho hso hbx
    have hp3 : pw (3 - S) ≤ 1000000000000000000 := pw_mono (show 3 - S ≤ 3 by omega)
    by_cases hb1 : 0 < b
    · have f1 : decide ((b : Int) > 0) = true := decide_eq_true (by omega)
      have f2 : IntKind.i64.wrap ((b : Int).tmod 1000000) = ((b % 1000000 : Nat) : Int) := by rw [Int.tmod_eq_emod_of_nonneg (by omega)]; rw [IntWalk.i64_in _ (by omega)]; omega -- IntWalk.i64_in _ (by omega)
      have f3 : IntKind.i64.wrap ((b : Int).tdiv 1000000) = ((b / 1000000 : Nat) : Int) := by rw [Int.tdiv_eq_ediv_of_nonneg (by omega)]; rw [IntWalk.i64_in _ (by omega)]; omega
      obtain ⟨pt, hpt⟩ : ∃ x, b % 1000000 = x := ⟨_, rfl⟩
      obtain ⟨q, hq⟩ : ∃ x, b / 1000000 = x := ⟨_, rfl⟩
      have hpl : pt < 1000000 := by omega
      have hqb : q < b := by omega
      have hbq : b = 1000000 * q + pt := by omega
      rw [hpt] at f2
      rw [hq] at f3
      have Hbq := Lib.hid hbq
      have Hq := Lib.hid hq
      have Hpt := Lib.hid hpt
      have hptb : pt ≤ b := by omega
      have hS3 := pw_one hbS hb1
      clear hpt hq hbq
      go_wp2_with fail
      go_loopw [7, 10, 11, 12] (fun v ca nv kv wr => ∃ (o2 : List Nat) (C N K : Nat), K ≤ m ∧ ca = I (C : Int) ∧ nv = I (N : Int) ∧ kv = I (K : Int) ∧ C ≤ 2000000 ∧ N < pw 3 ∧ N < pw (S + 3 - K) ∧ Dig o2 ∧ o2.length ≤ m ∧ val o2 + pw K * (C + pt * N) = val o + pw S * (pt * n) ∧ SoC 3 1 w.heap.size o2.length (flat 1 (rN o2) o2.length) v wr ∧ Below w.heap.size w wr) (fun _ _ _ kv _ => m - (intOf kv).toNat)
      case atStart => exact ⟨o, 0, n, S, by omega, rfl, rfl, rfl, by omega, hn, by rw [show S + 3 - S = 3 by omega]; exact hn, Ho.out, hol, by rw [Nat.zero_add], Hso.out, Hbx.out⟩
      case round =>
        rename World => Y
        obtain ⟨o2, C, N, K, hK, rfl, rfl, rfl, hC, hN3, hNK, ho2, ho2l, hv2, hso2, hby⟩ := hrel
        have Hv2 := Lib.hid hv2
        have Ho2 := Lib.hid ho2
        have Hso2 := Lib.hid hso2
        have Hby := Lib.hid hby
        clear hv2 ho2 hso2 hby
        by_cases hgo : 0 < N ∨ 0 < C
        · have hK12 : K < m := by
            rcases hgo with h | h
            · have := pw_one hNK h; omega
            · exact carry_k Hv2.out Hval.out hptb HT.out hK h
          by_cases hN0 : N = 0
          · have hC0 : 0 < C := by omega
            clear hgo
            go_wp2_with fail
            have HN0 := Lib.hid hN0
            clear hN0
            go_loopw [7] (fun v wr => ∃ o3 : List Nat, Dig o3 ∧ o3.length ≤ m ∧ val o3 = val o2 ∧ SoC 3 1 w.heap.size o3.length (flat 1 (rN o3) o3.length) v wr ∧ Below w.heap.size w wr) (fun v _ => m - lenV v)
            case atStart => exact ⟨o2, Ho2.out, ho2l, rfl, Hso2.out, Hby.out⟩
            case round =>
              rename World => Z
              obtain ⟨o3, ho3, ho3l, hv3, hso3, hbz⟩ := hrel
              obtain ⟨A3, c3, rfl, _, _, _⟩ := hso3.rd
              have Hv3 := Lib.hid hv3
              have Ho3 := Lib.hid ho3
              have Hso3 := Lib.hid hso3
              have Hbz := Lib.hid hbz
              have hsz := hbz.size
              clear hv3 ho3 hso3 hbz
              by_cases hlk : o3.length ≤ K
              · have g1 : decide ((o3.length : Int) ≤ (K : Int)) = true := decide_eq_true (by omega)
                go_wp2_with (at_builtin; go_loud (refine wpList_app_soc_g rfl _ _ 102 rfl 3 i1 _ 1 8 Tryd.underlying102 hi1 iz1 is1 ib1 rfl (by decide) w.heap.size o3.length (flat 1 (rN o3) o3.length) _ rfl (Hso3.out.over ((Below.refl _ _).alloc (Nat.le_refl _) _)) ⟨Z.heap.size, 0, none⟩ 1 [I 0] rfl (by rfl) (news_lit (cs := #[I 0]) (heap_last _ _ _ rfl)) ?h1 ?hB ?h63 ?hba ?_))
                case h1 => simp [Value.oneCell']
                case hB => simp; omega
                case h63 => omega
                case hba => decide
                intro v4 w4 row own4 hg4 hr4
                rw [← digs_app] at own4
                have Own4 := Lib.hid own4
                have Hb4 : Hid (Below w.heap.size w w4) := (Hbz.out.alloc (by omega) _).grown hg4 (by simp; omega) (fun q hq => by have := (hr4 q hq).1; omega)
                have hlv : Hid (lenV v4 = o3.length + 1) := by
                  rcases own4.2 with ⟨rfl, e1⟩ | ⟨g, cap, cur, rfl, _⟩
                  · exact absurd e1 (by omega)
                  · rfl
                clear own4 hg4 hr4
                go_wp2_with fail
                go_roundw
                case rel => exact ⟨o3 ++ [0], Ho3.out.app, by simp; omega, by rw [val_app_zero, Hv3.out], .inr (by rw [List.length_append]; exact Own4.out), Hb4.out⟩
                case measure => show m - lenV v4 < m - o3.length; rw [hlv.out]; omega
              · have g1 : decide ((o3.length : Int) ≤ (K : Int)) = false := decide_eq_false (by omega)
                have hlk' : K < o3.length := by omega
                obtain ⟨_, _, hown⟩ | hown := Hso3.out
                · omega
                obtain ⟨g, cap, hv, hgB, hcell, hfr, hst⟩ := own_open hown hlk'
                injection hv with hA _ hc3
                subst hA hc3
                have hdl := Ho3.out.at hlk'
                have hsv := step_val (out := o3) (k := K) (carry := C) (part := pt) (n := N) hlk'
                have hnm : N % 1000000 < 1000000 := Nat.mod_lt _ (by decide)
                obtain ⟨dg, hdg⟩ : ∃ x, at0 o3 K = x := ⟨_, rfl⟩
                obtain ⟨r, hr⟩ : ∃ x, N % 1000000 = x := ⟨_, rfl⟩
                rw [hdg] at hcell hdl
                rw [hdg, hr] at hsv
                rw [hr] at hnm
                have hmul : pt * r ≤ 999999 * 999999 := Nat.mul_le_mul (by omega) (by omega)
                obtain ⟨pr, hpr⟩ : ∃ x, pt * r = x := ⟨_, rfl⟩
                rw [hpr] at hsv hmul
                have hprI : (pt : Int) * (r : Int) = (pr : Int) := by rw [← hpr]; exact (Int.natCast_mul pt r).symm
                have hp3 : pw 3 = 1000000000000000000 := rfl
                rw [hp3] at hN3
                have m1 : Int.tmod (N : Int) 1000000 = (r : Int) := by rw [Int.tmod_eq_emod_of_nonneg (by omega)]; omega
                have hb6 : (b : Int) % 1000000 = (pt : Int) := by have := Hpt.out; omega
                have m2 : IntKind.i64.wrap ((b : Int) % 1000000 * (r : Int)) = (pr : Int) := by rw [hb6, hprI]; exact IntWalk.i64_in _ (by omega)
                have m3 : IntKind.i64.wrap ((dg : Int) + (pr : Int)) = (dg : Int) + (pr : Int) := IntWalk.i64_in _ (by omega)
                have m4 : IntKind.i64.wrap ((C : Int) + ((dg : Int) + (pr : Int))) = (C : Int) + ((dg : Int) + (pr : Int)) := IntWalk.i64_in _ (by omega)
                have m5 : IntKind.i64.wrap ((K : Int) + 1) = (K : Int) + 1 := IntWalk.i64_in _ (by omega)
                obtain ⟨cd, hcd⟩ : ∃ x, (C + (dg + pr)) / 1000000 = x := ⟨_, rfl⟩
                obtain ⟨cm, hcm⟩ : ∃ x, (C + (dg + pr)) % 1000000 = x := ⟨_, rfl⟩
                have m6 : Int.tdiv ((C : Int) + ((dg : Int) + (pr : Int))) 1000000 = (cd : Int) := by rw [Int.tdiv_eq_ediv_of_nonneg (by omega)]; omega
                have m7 : Int.tmod ((C : Int) + ((dg : Int) + (pr : Int))) 1000000 = (cm : Int) := by rw [Int.tmod_eq_emod_of_nonneg (by omega)]; omega
                have m8 : IntKind.i64.wrap ((N : Int) / 1000000) = (N : Int) / 1000000 := IntWalk.i64_in _ (by omega)
                have hcdb : cd ≤ 2000000 := by omega
                have hcmb : cm < 1000000 := by omega
                have m9 : IntKind.i64.wrap (cd : Int) = (cd : Int) := IntWalk.i64_in _ (by omega)
                have m10 : IntKind.i64.wrap (cm : Int) = (cm : Int) := IntWalk.i64_in _ (by omega)
                have k0 : decide (0 ≤ (K : Int)) = true := decide_eq_true (by omega)
                rw [hcd, hcm] at hsv
                have Hsv := Lib.hid hsv
                have Hst := Lib.hid hst
                clear hsv hst hr hpr hdg hown hcd hcm hb6 hprI
                go_wp2_with fail
                go_roundw
                case rel => exact ⟨o3.set K cm, cd, N / 1000000, K + 1, by omega, rfl, congrArg (Value.int .i64) (show (N : Int) / 1000000 = ((N / 1000000 : Nat) : Int) by omega), rfl, hcdb, by rw [hp3]; omega, pw_div' hNK, Ho3.out.set hcmb, by rw [List.length_set]; exact ho3l, by rw [Hsv.out, Hv3.out, Hv2.out], by first | exact .inr (Hst.out cm) | (have hh := Hst.out cm; rw [List.length_set] at hh ⊢; exact .inr hh), Hbz.out.setCell (p := ⟨g, K, none⟩) (by show w.heap.size ≤ g; omega) _⟩
                case measure => show m - ((K : Int) + 1).toNat < m - (K : Int).toNat; omega
          · clear hgo
            go_wp2_with fail
            have HN0 := Lib.hid hN0
            clear hN0
            go_loopw [7] (fun v wr => ∃ o3 : List Nat, Dig o3 ∧ o3.length ≤ m ∧ val o3 = val o2 ∧ SoC 3 1 w.heap.size o3.length (flat 1 (rN o3) o3.length) v wr ∧ Below w.heap.size w wr) (fun v _ => m - lenV v)
            case atStart => exact ⟨o2, Ho2.out, ho2l, rfl, Hso2.out, Hby.out⟩
            case round =>
              rename World => Z
              obtain ⟨o3, ho3, ho3l, hv3, hso3, hbz⟩ := hrel
              obtain ⟨A3, c3, rfl, _, _, _⟩ := hso3.rd
              have Hv3 := Lib.hid hv3
              have Ho3 := Lib.hid ho3
              have Hso3 := Lib.hid hso3
              have Hbz := Lib.hid hbz
              have hsz := hbz.size
              clear hv3 ho3 hso3 hbz
              by_cases hlk : o3.length ≤ K
              · have g1 : decide ((o3.length : Int) ≤ (K : Int)) = true := decide_eq_true (by omega)
                go_wp2_with (at_builtin; go_loud (refine wpList_app_soc_g rfl _ _ 102 rfl 3 i1 _ 1 8 Tryd.underlying102 hi1 iz1 is1 ib1 rfl (by decide) w.heap.size o3.length (flat 1 (rN o3) o3.length) _ rfl (Hso3.out.over ((Below.refl _ _).alloc (Nat.le_refl _) _)) ⟨Z.heap.size, 0, none⟩ 1 [I 0] rfl (by rfl) (news_lit (cs := #[I 0]) (heap_last _ _ _ rfl)) ?h1 ?hB ?h63 ?hba ?_))
                case h1 => simp [Value.oneCell']
                case hB => simp; omega
                case h63 => omega
                case hba => decide
                intro v4 w4 row own4 hg4 hr4
                rw [← digs_app] at own4
                have Own4 := Lib.hid own4
                have Hb4 : Hid (Below w.heap.size w w4) := (Hbz.out.alloc (by omega) _).grown hg4 (by simp; omega) (fun q hq => by have := (hr4 q hq).1; omega)
                have hlv : Hid (lenV v4 = o3.length + 1) := by
                  rcases own4.2 with ⟨rfl, e1⟩ | ⟨g, cap, cur, rfl, _⟩
                  · exact absurd e1 (by omega)
                  · rfl
                clear own4 hg4 hr4
                go_wp2_with fail
                go_roundw
                case rel => exact ⟨o3 ++ [0], Ho3.out.app, by simp; omega, by rw [val_app_zero, Hv3.out], .inr (by rw [List.length_append]; exact Own4.out), Hb4.out⟩
                case measure => show m - lenV v4 < m - o3.length; rw [hlv.out]; omega
              · have g1 : decide ((o3.length : Int) ≤ (K : Int)) = false := decide_eq_false (by omega)
                have hlk' : K < o3.length := by omega
                obtain ⟨_, _, hown⟩ | hown := Hso3.out
                · omega
                obtain ⟨g, cap, hv, hgB, hcell, hfr, hst⟩ := own_open hown hlk'
                injection hv with hA _ hc3
                subst hA hc3
                have hdl := Ho3.out.at hlk'
                have hsv := step_val (out := o3) (k := K) (carry := C) (part := pt) (n := N) hlk'
                have hnm : N % 1000000 < 1000000 := Nat.mod_lt _ (by decide)
                obtain ⟨dg, hdg⟩ : ∃ x, at0 o3 K = x := ⟨_, rfl⟩
                obtain ⟨r, hr⟩ : ∃ x, N % 1000000 = x := ⟨_, rfl⟩
                rw [hdg] at hcell hdl
                rw [hdg, hr] at hsv
                rw [hr] at hnm
                have hmul : pt * r ≤ 999999 * 999999 := Nat.mul_le_mul (by omega) (by omega)
                obtain ⟨pr, hpr⟩ : ∃ x, pt * r = x := ⟨_, rfl⟩
                rw [hpr] at hsv hmul
                have hprI : (pt : Int) * (r : Int) = (pr : Int) := by rw [← hpr]; exact (Int.natCast_mul pt r).symm
                have hp3 : pw 3 = 1000000000000000000 := rfl
                rw [hp3] at hN3
                have m1 : Int.tmod (N : Int) 1000000 = (r : Int) := by rw [Int.tmod_eq_emod_of_nonneg (by omega)]; omega
                have hb6 : (b : Int) % 1000000 = (pt : Int) := by have := Hpt.out; omega
                have m2 : IntKind.i64.wrap ((b : Int) % 1000000 * (r : Int)) = (pr : Int) := by rw [hb6, hprI]; exact IntWalk.i64_in _ (by omega)
                have m3 : IntKind.i64.wrap ((dg : Int) + (pr : Int)) = (dg : Int) + (pr : Int) := IntWalk.i64_in _ (by omega)
                have m4 : IntKind.i64.wrap ((C : Int) + ((dg : Int) + (pr : Int))) = (C : Int) + ((dg : Int) + (pr : Int)) := IntWalk.i64_in _ (by omega)
                have m5 : IntKind.i64.wrap ((K : Int) + 1) = (K : Int) + 1 := IntWalk.i64_in _ (by omega)
                obtain ⟨cd, hcd⟩ : ∃ x, (C + (dg + pr)) / 1000000 = x := ⟨_, rfl⟩
                obtain ⟨cm, hcm⟩ : ∃ x, (C + (dg + pr)) % 1000000 = x := ⟨_, rfl⟩
                have m6 : Int.tdiv ((C : Int) + ((dg : Int) + (pr : Int))) 1000000 = (cd : Int) := by rw [Int.tdiv_eq_ediv_of_nonneg (by omega)]; omega
                have m7 : Int.tmod ((C : Int) + ((dg : Int) + (pr : Int))) 1000000 = (cm : Int) := by rw [Int.tmod_eq_emod_of_nonneg (by omega)]; omega
                have m8 : IntKind.i64.wrap ((N : Int) / 1000000) = (N : Int) / 1000000 := IntWalk.i64_in _ (by omega)
                have hcdb : cd ≤ 2000000 := by omega
                have hcmb : cm < 1000000 := by omega
                have m9 : IntKind.i64.wrap (cd : Int) = (cd : Int) := IntWalk.i64_in _ (by omega)
                have m10 : IntKind.i64.wrap (cm : Int) = (cm : Int) := IntWalk.i64_in _ (by omega)
                have k0 : decide (0 ≤ (K : Int)) = true := decide_eq_true (by omega)
                rw [hcd, hcm] at hsv
                have Hsv := Lib.hid hsv
                have Hst := Lib.hid hst
                clear hsv hst hr hpr hdg hown hcd hcm hb6 hprI
                go_wp2_with fail
                go_roundw
                case rel => exact ⟨o3.set K cm, cd, N / 1000000, K + 1, by omega, rfl, congrArg (Value.int .i64) (show (N : Int) / 1000000 = ((N / 1000000 : Nat) : Int) by omega), rfl, hcdb, by rw [hp3]; omega, pw_div' hNK, Ho3.out.set hcmb, by rw [List.length_set]; exact ho3l, by rw [Hsv.out, Hv3.out, Hv2.out], by first | exact .inr (Hst.out cm) | (have hh := Hst.out cm; rw [List.length_set] at hh ⊢; exact .inr hh), Hbz.out.setCell (p := ⟨g, K, none⟩) (by show w.heap.size ≤ g; omega) _⟩
                case measure => show m - ((K : Int) + 1).toNat < m - (K : Int).toNat; omega
        · have e1 : decide ((N : Int) > 0) = false := decide_eq_false (by omega)
          have e2 : decide ((C : Int) > 0) = false := decide_eq_false (by omega)
          have f4 : IntKind.i64.wrap ((S : Int) + 1) = (S : Int) + 1 := IntWalk.i64_in _ (by omega)
          obtain ⟨rfl, rfl⟩ : N = 0 ∧ C = 0 := by omega
          clear hgo e1 e2
          go_wp2_with fail
          go_roundw
          case rel =>
            have hj := sum_join Hv2.out Hval.out Hbq.out
            rw [← Hq.out] at hj
            exact ⟨o2, S + 1, b / 1000000, by omega, rfl, congrArg (Value.int .i64) (show (b : Int) / 1000000 = ((b / 1000000 : Nat) : Int) by omega), pw_div' hbS, Ho2.out, ho2l, hj, Hso2.out, Hby.out⟩
          case measure => show ((b : Int) / 1000000).toNat < (b : Int).toNat; omega
    · have f1 : decide ((b : Int) > 0) = false := decide_eq_false (by omega)
      obtain rfl : b = 0 := by omega
      go_wp2_with fail
      go_ret
      exact ⟨_, o, rfl, Ho.out, hol, by have := Hval.out; simpa using this, Hso.out, Hbx.out⟩
end Go.Proofs.YtfifdfagikbahaaDoor
