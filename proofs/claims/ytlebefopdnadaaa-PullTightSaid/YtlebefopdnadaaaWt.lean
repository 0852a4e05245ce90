/- The contract of with of the statements' package: a run with a sample more. -/
import Derived.Test.YtlebefopdnadaaaTi
import Derived.Test.YtlebefopdnadaaaSoc
namespace Go.Proofs.Ytlebefopdnadaaa
open Go.RowKit
theorem insMK_len (ms : List Smp) (x : Smp) : ∀ k, (insMK ms x k).1.length ≤ 2 * k
  | 0 => by simp [insMK]
  | k + 1 => by
    have := insMK_len ms x k
    rw [insMK]
    split
    · simp only [List.length_append, List.length_singleton]; omega
    · simp only [List.length_append, List.length_singleton]; omega
theorem soC_smp {e : TypeId} {B : Nat} {l : List Smp} {y : Smp} {v : Value} {w : World} (h : SoC e 3 B (l.length + 1) (flat 3 (rM l) l.length ++ [I y.t, I y.lo, I y.hi]) v w) : SoC e 3 B (l ++ [y]).length (flat 3 (rM (l ++ [y])) (l ++ [y]).length) v w := by
  rw [List.length_append, show [y].length = 1 from rfl, flat_app]; exact h
/-- The list under way: l at v. -/
structure MsOk (B : Nat) (l : List Smp) (v : Value) (w : World) : Prop where
  so : SoC 75 3 B l.length (flat 3 (rM l) l.length) v w
  lt : B ≤ w.heap.size
/-- Samples that can be read, in a block of samples. -/
def RdS (w : World) (A : Option Addr) (l : List Smp) : Prop := Rd w w.heap.size 3 A l.length (rM l) ∧ (0 < l.length → ∃ b o cs, A = some ⟨b, o, none⟩ ∧ w.heap[b]? = some (.cells cs 75 (0, 0)))
theorem RdS.below {w w' : World} {A : Option Addr} {l : List Smp} (h : RdS w A l) (hb : Below w.heap.size w w') : RdS w' A l :=
  ⟨(h.1.below hb).more hb.size, fun hn => by
    obtain ⟨b, o, cs, hA, hc⟩ := h.2 hn
    exact ⟨b, o, cs, hA, (Below.block hb _ (Array.getElem?_eq_some_iff.1 hc).1).trans hc⟩⟩
theorem RdS.set {w : World} {A : Option Addr} {l : List Smp} (h : RdS w A l) {q : Nat} {cq : Array Value} {t : TypeId} (hq : w.heap[q]? = some (.cells cq t (0, 0))) (ht : t ≠ 75) (cs' : Array Value) : RdS (w.setRow q cs') A l := by
  have hne : ∀ b o cs, A = some ⟨b, o, none⟩ → w.heap[b]? = some (.cells cs 75 (0, 0)) → b ≠ q := fun b o cs _ hc e => by
    subst e
    rw [hq] at hc
    injection hc with hc
    injection hc with _ hc _
    exact ht hc
  refine ⟨fun hn => ?_, fun hn => ?_⟩
  · obtain ⟨b, o, cs, hA, hc⟩ := h.2 hn
    obtain ⟨b2, o2, hA2, hlt, hcell⟩ := h.1 hn
    obtain ⟨rfl, rfl⟩ : b = b2 ∧ o = o2 := by rw [hA] at hA2; injection hA2 with e; injection e with e1 e2; exact ⟨e1, e2⟩
    refine ⟨b, o, hA, by rw [setRow_size]; exact hlt, fun k hk j hj => ?_⟩
    rw [← hcell k hk j hj]
    unfold World.cell?
    rw [show (w.setRow q cs').heap[(⟨b, o + k * 3 + j, none⟩ : Addr).block]? = w.heap[(⟨b, o + k * 3 + j, none⟩ : Addr).block]? from setRow_other (hne b o cs hA hc)]
  · obtain ⟨b, o, cs, hA, hc⟩ := h.2 hn
    exact ⟨b, o, cs, hA, (setRow_other (hne b o cs hA hc)).trans hc⟩
theorem SoC.rdS {B n c : Nat} {A : Option Addr} {l : List Smp} {w : World} (h : SoC 75 3 B l.length (flat 3 (rM l) l.length) (.slice A n c) w) : RdS w A l := by
  refine ⟨h.at.2.2.2, fun hn => ?_⟩
  rcases h with ⟨h0, _⟩ | ⟨_, ⟨_, h0⟩ | ⟨g, cap, cur, hv, hg, hh, _⟩⟩
  · omega
  · omega
  · injection hv with e1 _ _
    exact ⟨g, 0, cur, e1, hh⟩
/-- What with returns. -/
def RetWith (w : World) (A1 A3 : Option Addr) (c1 c3 : Nat) (R : Run) (x : Smp) (e : Ending) (w' : World) : Prop := ∃ A2 c2 l ok, e = .returned (.tuple #[.agg #[.slice A1 R.ss.length c1, I R.e, .slice A2 (List.length l) c2, .slice A3 R.es.length c3], .bool ok]) ∧ (ok = true → noT R x.t ∧ l = insM R.ms x ∧ RdS w' A2 l) ∧ Below w.heap.size w w'
set_option maxRecDepth 100000 in
set_option maxHeartbeats 4000000 in
theorem with_any (A1 A2 A3 : Option Addr) (c1 c2 c3 : Nat) (R : Run) (x : Smp) (w : World) (h : RunIn w A1 A2 A3 R) (hl : R.ms.length ≤ 99) :
    Calls Try.prog 41 #[runV A1 A2 A3 c1 c2 c3 R, I x.t, .agg #[I x.lo, I x.hi]] w (RetWith w A1 A3 c1 c3 R x) := by
  obtain ⟨W0, hW0⟩ : ∃ W0, W0 = ((w.alloc (.cells (rnArr A1 A2 A3 c1 c2 c3 R) 35)).alloc (.cells #[I x.lo, I x.hi] 23)).alloc (.cells run0 35) := ⟨_, rfl⟩
  have HB : Hid (Below w.heap.size w W0 ∧ w.heap.size + 3 ≤ W0.heap.size) := by
    show _ ∧ _
    subst hW0
    exact ⟨(((Below.refl _ _).alloc (Nat.le_refl _) _).alloc (by simp) _).alloc (by simp; omega) _, by simp⟩
  have HRn : Hid (∀ W, Le W0 W → W.heap[w.heap.size]? = some (.cells (rnArr A1 A2 A3 c1 c2 c3 R) 35 (0, 0))) := fun W hW => (Below.block hW _ (by have := HB.out.2; omega)).trans (by rw [hW0]; exact heap_before (heap_before (heap_last _ _ _ rfl)))
  have HRg : Hid (∀ W, Le W0 W → W.heap[w.heap.size + 1]? = some (.cells #[I x.lo, I x.hi] 23 (0, 0))) := fun W hW => (Below.block hW _ (by have := HB.out.2; omega)).trans (by rw [hW0]; exact heap_before (heap_last _ _ _ (by simp)))
  have HOu : Hid (∀ W, Le W0 W → W.heap[w.heap.size + 2]? = some (.cells run0 35 (0, 0))) := fun W hW => (Below.block hW _ (by have := HB.out.2; omega)).trans (by rw [hW0]; exact heap_last _ _ _ (by simp))
  have HX : Hid (∀ W, Le W0 W → W.cell? ⟨w.heap.size, 0, none⟩ = some (.slice A1 R.ss.length c1) ∧ W.cell? ⟨w.heap.size, 1, none⟩ = some (I R.e) ∧ W.cell? ⟨w.heap.size, 2, none⟩ = some (.slice A2 R.ms.length c2) ∧ W.cell? ⟨w.heap.size, 3, none⟩ = some (.slice A3 R.es.length c3)) := fun W hW =>
    ⟨by rw [cell_of_row _ _ _ _ _ _ (HRn.out W hW)]; rfl, by rw [cell_of_row _ _ _ _ _ _ (HRn.out W hW)]; rfl, by rw [cell_of_row _ _ _ _ _ _ (HRn.out W hW)]; rfl, by rw [cell_of_row _ _ _ _ _ _ (HRn.out W hW)]; rfl⟩
  have HY : Hid (∀ W, Le W0 W → W.cell? ⟨w.heap.size + 1, 0, none⟩ = some (I x.lo) ∧ W.cell? ⟨w.heap.size + 1, 1, none⟩ = some (I x.hi)) := fun W hW =>
    ⟨by rw [cell_of_row _ _ _ _ _ _ (HRg.out W hW)]; rfl, by rw [cell_of_row _ _ _ _ _ _ (HRg.out W hW)]; rfl⟩
  have HU : Hid (∀ W, Le W0 W → Below w.heap.size w W) := fun W hW => HB.out.1.trans (Below.mono hW HB.out.1.size)
  have HI : Hid (∀ W, Le W0 W → RunIn W A1 A2 A3 R) := fun W hW => h.below (HU.out W hW)
  have HW := Lib.hid hW0
  have H0 := Lib.hid h
  clear h hW0
  obtain ⟨i2, hi2, iz2, is2, ib2⟩ := info_parts smp_info3
  go_enter Try.func41, Try.ntmps41
  go_upto_region 1 with (fail)
  rw [← HW.out]
  go_wp2_with fail
  go_loopw [8, 9, 10] (fun v d i wr => ∃ k : Nat, k ≤ R.ms.length ∧ i = .int .i64 k ∧ (∀ j, j < k → (at0 R.ms j).t ≠ x.t) ∧ d = .bool (insMK R.ms x k).2 ∧ MsOk W0.heap.size (insMK R.ms x k).1 v wr ∧ Le W0 wr) (fun _ _ i _ => R.ms.length - (intOf i).toNat)
  case atStart => exact ⟨0, by omega, rfl, fun j hj => by omega, rfl, ⟨.inl ⟨rfl, rfl, _, rfl⟩, by simp⟩, (Below.refl _ _).alloc (Nat.le_refl _) _⟩
  case round =>
    rename World => X0
    obtain ⟨k, hk, rfl, hno, rfl, hms, hbw⟩ := hrel
    have LX0 : Hid (Le W0 X0) := hbw
    have Hno := Lib.hid hno
    clear hbw hno
    obtain ⟨k0, k1, k2, k3⟩ := HX.out X0 LX0.out
    have hll := insMK_len R.ms x k
    by_cases hlt : k < R.ms.length
    · have hki : decide ((k : Int) < (R.ms.length : Int)) = true := decide_eq_true (by omega)
      have hkn : decide (k < R.ms.length) = true := decide_eq_true hlt
      obtain ⟨b, o, rfl, _, x0, x1, x2⟩ := (HI.out X0 LX0.out).m.smp hlt
      by_cases htt : (at0 R.ms k).t = x.t
      · have hte : ((at0 R.ms k).t == x.t) = true := by simpa using htt
        clear htt
        go_wp2_with (refine wpList_store_row rfl 35 _ _ rfl (w.heap.size + 2) rfl _ _ (HOu.out X0 LX0.out) (rnArr A1 (some ⟨b, o, none⟩) A3 c1 c2 c3 R) rfl (rn_one _ _ _ _ _ _ _) rfl (by kernel_rfl) ?_)
        refine bodyPost_ret (results_cell_tmp rfl _ _ (w.heap.size + 2) 35 (rnArr A1 (some ⟨b, o, none⟩) A3 c1 c2 c3 R) (0, 0) _ rfl (setRow_same (HOu.out X0 LX0.out)) Try.underlying35 rfl (by kernel_rfl)) rfl ?_
        exact ⟨some ⟨b, o, none⟩, c2, R.ms, false, rfl, (fun h => by cases h), below_setRow (HU.out X0 LX0.out) (by omega) _⟩
      · have hte : ((at0 R.ms k).t == x.t) = false := by simpa using htt
        have Htt := Lib.hid htt
        have hsk : insMK R.ms x (k + 1) = if x.t < (at0 R.ms k).t ∧ (insMK R.ms x k).2 = false then ((insMK R.ms x k).1 ++ [x] ++ [at0 R.ms k], true) else ((insMK R.ms x k).1 ++ [at0 R.ms k], (insMK R.ms x k).2) := rfl
        obtain ⟨⟨l, dn⟩, hq⟩ : ∃ q, insMK R.ms x k = q := ⟨_, rfl⟩
        rw [hq] at hms hsk hll ⊢
        obtain ⟨ev, hev⟩ : ∃ ev, at0 R.ms k = ev := ⟨_, rfl⟩
        have HEv := Lib.hid hev
        rw [hev] at hsk x0 x1 x2 hte
        obtain ⟨bb, hbb⟩ : ∃ bb, (decide (x.t < ev.t) && !dn) = bb := ⟨_, rfl⟩
        have hsk2 : Hid (insMK R.ms x (k + 1) = ((if bb then l ++ [x] else l) ++ [ev], dn || bb)) := by
          show _ = _
          rw [hsk, ← hbb]
          by_cases h1 : x.t < ev.t
          · rcases dn with _ | _ <;> simp [h1]
          · rcases dn with _ | _ <;> simp [h1]
        have Hbb := Lib.hid hbb
        have hl40 : l.length ≤ 200 := by simp only at hll; omega
        simp only at hms
        clear hsk hq hev hbb hll htt
        go_upto_region 8 with (fail)
        go_cut [39] from 28 to 39 (fun c wx => c = .bool bb ∧ wx = X0)
        case first =>
          by_cases h1 : x.t < ev.t
          · have f1 : decide (x.t < ev.t) = true := decide_eq_true h1
            rcases dn with _ | _
            · have Hf : Hid (bb = true) := by show _ = _; rw [← Hbb.out, f1]; rfl
              clear h1
              go_wp2_with fail
              go_meet
              case rel => exact ⟨by rw [Hf.out], rfl⟩
            · have Hf : Hid (bb = false) := by show _ = _; rw [← Hbb.out, f1]; rfl
              clear h1
              go_wp2_with fail
              go_meet
              case rel => exact ⟨by rw [Hf.out], rfl⟩
          · have f1 : decide (x.t < ev.t) = false := decide_eq_false h1
            have Hf : Hid (bb = false) := by show _ = _; rw [← Hbb.out, f1]; rfl
            clear h1
            go_wp2_with fail
            go_meet
            case rel => exact ⟨by rw [Hf.out], rfl⟩
        obtain ⟨rfl, hwc⟩ := hcut
        rw [hwc]
        clear hwc
        go_upto_if 39 with (fail)
        go_cut [8, 9] from 40 to 45 (fun s d wx => d = .bool (dn || bb) ∧ MsOk W0.heap.size (if bb then l ++ [x] else l) s wx ∧ Le W0 wx)
        case first =>
          rcases bb with _ | _
          · go_wp2_with fail
            go_meet
            case rel => exact ⟨by simp, hms, LX0.out⟩
          · obtain ⟨A', c', rfl, hc1, hc2, _⟩ := hms.so.rd
            have hlb1 := hms.lt
            obtain ⟨z0, z1⟩ := HY.out X0 LX0.out
            go_wp2_with (at_builtin; go_loud (refine wpList_app_soc rfl _ _ 32 rfl 75 i2 _ 3 24 Try.underlying32 hi2 iz2 is2 ib2 rfl (by decide) W0.heap.size l.length (flat 3 (rM l) l.length) (.slice A' l.length c') rfl (hms.so.over ((Below.refl _ _).alloc (Nat.le_refl _) _)) ⟨X0.heap.size, 0, none⟩ 1 [I x.t, I x.lo, I x.hi] rfl rfl (news_lit (cs := #[I x.t, I x.lo, I x.hi]) (heap_last _ _ _ rfl)) (by simp [Value.oneCell']) (by have := hms.lt; simp; omega) (by omega) (by decide) ?_))
            intro v' w2 hso2 hb2
            have hb3 : Below W0.heap.size X0 w2 := ((Below.refl _ _).alloc hlb1 _).trans hb2
            have hle3 : Hid (Le W0 w2) := Below.trans LX0.out hb3
            have so3 := Lib.hid (soC_smp (y := x) hso2)
            have Hlt : Hid (W0.heap.size ≤ w2.heap.size) := Below.size hle3.out
            clear hso2 hb2 hb3 z0 z1
            go_wp2_with fail
            go_meet
            case rel => exact ⟨by simp, ⟨so3.out, Hlt.out⟩, hle3.out⟩
        obtain ⟨rfl, hms1, hle1⟩ := hcut
        obtain ⟨l1, hl1⟩ : ∃ l1, (if bb then l ++ [x] else l) = l1 := ⟨_, rfl⟩
        have hl41 : l1.length ≤ 201 := by
          rw [← hl1]
          split
          · rw [List.length_append]; simp only [List.length_singleton]; omega
          · omega
        rw [hl1] at hms1
        have HL1 := Lib.hid hl1
        have LWc : Hid (Le W0 wc) := hle1
        clear hl1 hl40 hle1 k0 k1 k2 k3 x0 x1 x2 LX0 hms
        go_upto_region 10 with (fail)
        obtain ⟨k0, k1, k2, k3⟩ := HX.out wc LWc.out
        obtain ⟨b6, o6, h6, _, x0, x1, x2⟩ := (HI.out wc LWc.out).m.smp hlt
        obtain ⟨rfl, rfl⟩ : b = b6 ∧ o = o6 := by injection h6 with h6; injection h6 with h1 h2; exact ⟨h1, h2⟩
        rw [HEv.out] at x0 x1 x2
        obtain ⟨A', c', rfl, hc1, hc2, _⟩ := hms1.so.rd
        have hlb1 := hms1.lt
        clear h6
        go_wp2_with (at_builtin; go_loud (refine wpList_app_soc rfl _ _ 32 rfl 75 i2 _ 3 24 Try.underlying32 hi2 iz2 is2 ib2 rfl (by decide) W0.heap.size l1.length (flat 3 (rM l1) l1.length) (.slice A' l1.length c') rfl (hms1.so.over ((Below.refl _ _).alloc (Nat.le_refl _) _)) ⟨wc.heap.size, 0, none⟩ 1 [I ev.t, I ev.lo, I ev.hi] rfl rfl (news_lit (cs := #[I ev.t, I ev.lo, I ev.hi]) (heap_last _ _ _ rfl)) (by simp [Value.oneCell']) (by have := hms1.lt; simp; omega) (by omega) (by decide) ?_))
        intro v' w2 hso2 hb2
        have hb3 : Below W0.heap.size wc w2 := ((Below.refl _ _).alloc hlb1 _).trans hb2
        have hle3 : Hid (Le W0 w2) := Below.trans LWc.out hb3
        have so3 := Lib.hid (soC_smp (y := ev) hso2)
        have Hlt : Hid (W0.heap.size ≤ w2.heap.size) := Below.size hle3.out
        have Hno2 : Hid (∀ j, j < k + 1 → (at0 R.ms j).t ≠ x.t) := fun j hj => by
          rcases Nat.lt_or_ge j k with hjk | hjk
          · exact Hno.out j hjk
          · obtain rfl : j = k := by omega
            exact Htt.out
        clear hso2 hb2 hb3 k0 k1 k2 k3 x0 x1 x2
        go_wp2_with fail
        go_roundw
        case rel => exact ⟨k + 1, by omega, by go_num, Hno2.out, by rw [hsk2.out], by rw [hsk2.out, HL1.out]; exact ⟨so3.out, Hlt.out⟩, hle3.out⟩
        case measure => simp only [intOf]; omega
    · obtain rfl : k = R.ms.length := by omega
      have hki : decide ((R.ms.length : Int) < (R.ms.length : Int)) = false := decide_eq_false (by omega)
      have hie : insM R.ms x = if (insMK R.ms x R.ms.length).2 then (insMK R.ms x R.ms.length).1 else (insMK R.ms x R.ms.length).1 ++ [x] := rfl
      obtain ⟨⟨l, dn⟩, hq⟩ : ∃ q, insMK R.ms x R.ms.length = q := ⟨_, rfl⟩
      rw [hq] at hms hie hll ⊢
      have hl40 : l.length ≤ 200 := by simp only at hll; omega
      simp only at hms hie
      have Hie := Lib.hid hie
      clear hq hie hll
      go_upto_if 55 with (fail)
      go_cut [8] from 56 to 61 (fun s wx => MsOk W0.heap.size (insM R.ms x) s wx ∧ Le W0 wx)
      case first =>
        rcases dn with _ | _
        · obtain ⟨A', c', rfl, hc1, hc2, _⟩ := hms.so.rd
          have hlb1 := hms.lt
          obtain ⟨z0, z1⟩ := HY.out X0 LX0.out
          go_wp2_with (at_builtin; go_loud (refine wpList_app_soc rfl _ _ 32 rfl 75 i2 _ 3 24 Try.underlying32 hi2 iz2 is2 ib2 rfl (by decide) W0.heap.size l.length (flat 3 (rM l) l.length) (.slice A' l.length c') rfl (hms.so.over ((Below.refl _ _).alloc (Nat.le_refl _) _)) ⟨X0.heap.size, 0, none⟩ 1 [I x.t, I x.lo, I x.hi] rfl rfl (news_lit (cs := #[I x.t, I x.lo, I x.hi]) (heap_last _ _ _ rfl)) (by simp [Value.oneCell']) (by have := hms.lt; simp; omega) (by omega) (by decide) ?_))
          intro v' w2 hso2 hb2
          have hb3 : Below W0.heap.size X0 w2 := ((Below.refl _ _).alloc hlb1 _).trans hb2
          have hle3 : Hid (Le W0 w2) := Below.trans LX0.out hb3
          have so3 := Lib.hid (soC_smp (y := x) hso2)
          have Hlt : Hid (W0.heap.size ≤ w2.heap.size) := Below.size hle3.out
          clear hso2 hb2 hb3 z0 z1
          go_wp2_with fail
          go_meet
          case rel => exact ⟨by rw [Hie.out]; exact ⟨so3.out, Hlt.out⟩, hle3.out⟩
        · go_wp2_with fail
          go_meet
          case rel => exact ⟨by rw [Hie.out]; exact hms, LX0.out⟩
      obtain ⟨hms1, hle1⟩ := hcut
      have LC : Hid (Le W0 wc) := hle1
      obtain ⟨B2, d2, rfl, hc1, hc2, hrd⟩ := hms1.so.rd
      obtain ⟨R', hR'⟩ : ∃ R', R' = withR R x := ⟨_, rfl⟩
      have hlen := with_len R x
      have h0 := HI.out wc LC.out
      have hRn := HRn.out wc LC.out
      have hOu := HOu.out wc LC.out
      have h3 := HB.out.2
      have hsz := Below.size LC.out
      have x2 : wc.cell? ⟨w.heap.size, 2, none⟩ = some (.slice A2 R.ms.length c2) := by rw [cell_of_row _ _ _ _ _ _ hRn]; rfl
      have hfz : wc.frozen? ⟨w.heap.size, 2, none⟩ = false := by unfold World.frozen?; rw [hRn]; rfl
      have hin : Hid (RdS ((wc.setRow w.heap.size (rnArr A1 B2 A3 c1 d2 c3 R')).setRow (w.heap.size + 2) (rnArr A1 B2 A3 c1 d2 c3 R')) B2 (insM R.ms x)) :=
        ((hms1.so.set (show w.heap.size < W0.heap.size by omega) (rnArr A1 B2 A3 c1 d2 c3 R')).set (show w.heap.size + 2 < W0.heap.size by omega) (rnArr A1 B2 A3 c1 d2 c3 R')).rdS
      have hms2 : (insM R.ms x).length = R'.ms.length := by rw [hR']; rfl
      have hss2 : R.ss.length = R'.ss.length := by rw [hR']; rfl
      have hes2 : R.es.length = R'.es.length := by rw [hR']; rfl
      have he2 : R.e = R'.e := by rw [hR']; rfl
      rw [hms2]
      have HRR := Lib.hid hR'
      clear hms1 hle1 k0 k1 k2 k3 hms hlen hms2 hrd hR' hss2 hes2 he2
      go_upto_region 14 with (fail)
      rw [setCell_eq_setRow wc w.heap.size 2 (rnArr A1 A2 A3 c1 c2 c3 R) 35 (0, 0) _ hRn]
      have hrow : (rnArr A1 A2 A3 c1 c2 c3 R).setIfInBounds 2 (.slice B2 R'.ms.length d2) = rnArr A1 B2 A3 c1 d2 c3 R' := by rw [HRR.out]; rfl
      rw [hrow]
      have r0 : (wc.setRow w.heap.size (rnArr A1 B2 A3 c1 d2 c3 R')).heap[w.heap.size]? = some (.cells (rnArr A1 B2 A3 c1 d2 c3 R') 35 (0, 0)) := setRow_same hRn
      have r2 : (wc.setRow w.heap.size (rnArr A1 B2 A3 c1 d2 c3 R')).heap[w.heap.size + 2]? = some (.cells run0 35 (0, 0)) := (setRow_other (by omega)).trans hOu
      have hle2 : Hid (Below w.heap.size w (wc.setRow w.heap.size (rnArr A1 B2 A3 c1 d2 c3 R'))) := below_setRow (HU.out wc LC.out) (Nat.le_refl _) _
      generalize wc.setRow w.heap.size (rnArr A1 B2 A3 c1 d2 c3 R') = W8 at *
      have y0 : W8.cell? ⟨w.heap.size, 0, none⟩ = some (.slice A1 R'.ss.length c1) := by rw [cell_of_row _ _ _ _ _ _ r0]; rfl
      have y1 : W8.cell? ⟨w.heap.size, 1, none⟩ = some (I R'.e) := by rw [cell_of_row _ _ _ _ _ _ r0]; rfl
      have y2 : W8.cell? ⟨w.heap.size, 2, none⟩ = some (.slice B2 R'.ms.length d2) := by rw [cell_of_row _ _ _ _ _ _ r0]; rfl
      have y3 : W8.cell? ⟨w.heap.size, 3, none⟩ = some (.slice A3 R'.es.length c3) := by rw [cell_of_row _ _ _ _ _ _ r0]; rfl
      clear hrow x2 hfz h0 hRn hOu
      go_wp2_with (refine wpList_store_row rfl 35 _ _ rfl (w.heap.size + 2) rfl _ _ r2 (rnArr A1 B2 A3 c1 d2 c3 R') rfl (rn_one _ _ _ _ _ _ _) rfl (by kernel_rfl) ?_)
      refine bodyPost_ret (results_cell_tmp rfl _ _ (w.heap.size + 2) 35 (rnArr A1 B2 A3 c1 d2 c3 R') (0, 0) _ rfl (setRow_same r2) Try.underlying35 rfl (by kernel_rfl)) rfl ?_
      refine ⟨B2, d2, R'.ms, decide ((R'.ms.length : Int) ≤ 100), ?_, fun _ => ⟨Hno.out, by rw [HRR.out]; rfl, ?_⟩, below_setRow hle2.out (by omega) _⟩
      · rw [HRR.out]; rfl
      · have := hin.out
        rw [HRR.out] at this ⊢
        exact this
end Go.Proofs.Ytlebefopdnadaaa
