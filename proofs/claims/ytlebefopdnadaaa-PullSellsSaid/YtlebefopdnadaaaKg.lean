/- The contract of Accepted of the reference. -/
import Derived.Test.YtlebefopdnadaaaIg
import Derived.Laws.OwnMore
namespace Go.Proofs.Ytlebefopdnadaaa
open Go.RowKit
theorem last_split {l : List Rng} (h : 0 < l.length) : ∃ i x, l = i ++ [x] := ⟨l.dropLast, l.getLast (by intro e; rw [e] at h; simp at h), (List.dropLast_concat_getLast _).symm⟩
set_option maxRecDepth 100000 in
set_option maxHeartbeats 2000000 in
theorem refAcc_any (A1 A2 A3 : Option Addr) (c1 c2 c3 : Nat) (p : Vec) (R : Run) (w : World) (h : RunIn w A1 A2 A3 R) (hv : VRun R) (hp : VPul p) (he : R.e ≤ 100000) :
    Calls Try.prog 36 #[.agg (ia 117 p), runV A1 A2 A3 c1 c2 c3 R] w (RetR w (runsF (goodB p R) R.e.toNat)) := by
  obtain ⟨i0, hi0, iz0, iz1, iz2⟩ := info_parts rng_info
  obtain ⟨W2, hW2⟩ : ∃ W2, W2 = ((w.alloc (.cells (ia 117 p) 30)).alloc (.cells #[.slice A1 R.ss.length c1, I R.e, .slice A2 R.ms.length c2, .slice A3 R.es.length c3] 35)) := ⟨_, rfl⟩
  have T : Hid (Two w A1 A2 A3 c1 c2 c3 p R W2) := hW2 ▸ two_mk h c1 c2 c3 p
  have HW := Lib.hid hW2
  have HG : Hid (∀ k : Nat, k < R.e.toNat → ∀ W, Le W2 W → Calls Try.prog 73 #[.agg (ia 117 p), runV A1 A2 A3 c1 c2 c3 R, I k] W fun e w' => e = .returned (.bool (goodB p R k)) ∧ Below W.heap.size W w') := fun k hk W hW => refGood_any A1 A2 A3 c1 c2 c3 p R k W (T.out.run.below hW) hv hp (by omega)
  have HC : Hid (∀ W, Le W2 W → W.cell? ⟨w.heap.size + 1, 0, none⟩ = some (.slice A1 R.ss.length c1) ∧ W.cell? ⟨w.heap.size + 1, 1, none⟩ = some (I R.e) ∧ W.cell? ⟨w.heap.size + 1, 2, none⟩ = some (.slice A2 R.ms.length c2) ∧ W.cell? ⟨w.heap.size + 1, 3, none⟩ = some (.slice A3 R.es.length c3)) := fun W hW => ⟨T.out.r0 _ hW, T.out.r1 _ hW, T.out.r2 _ hW, T.out.r3 _ hW⟩
  have re0 : 0 ≤ R.e := by have := hv.tlt 0 hv.n1; rw [hv.first] at this; omega
  obtain ⟨N, hN⟩ : ∃ N : Nat, R.e = N := ⟨R.e.toNat, by omega⟩
  have HN := Lib.hid hN
  have hNN : Hid (R.e.toNat = N) := by show _ = _; omega
  have hN5 : (N : Int) ≤ 100000 := by omega
  have z2 := T.out.size
  have Z2 := Lib.hid z2
  have hz2 : w.heap.size + 2 ≤ W2.heap.size := by omega
  clear h hv hp he hW2 re0 hN z2
  generalize hf : goodB p R = f at *
  clear hf
  go_enter Try.func36, Try.ntmps36
  go_wp2_with fail
  rw [← HW.out]
  go_loopw [5, 6] (fun v t wr => ∃ k : Nat, k ≤ N ∧ t = .int .i64 k ∧ wr.ownsRow W2.heap.size 23 2 v (rnK f k).1.length (rc (rnK f k).1) ∧ Le W2 wr) (fun _ t _ => N - (intOf t).toNat)
  case atStart =>
    refine ⟨0, by omega, rfl, ?_, (Below.refl _ _).alloc (Nat.le_refl _) _⟩
    rw [show w.heap.size + 1 + 1 = W2.heap.size from Z2.out.symm]
    simpa [rnK, rc] using World.ownsRow_lit (base := W2.heap.size) (e := 23) (size := 2) W2 #[] 0 (by simp) (by unfold maxLen; omega) rfl
  case round =>
    obtain ⟨k, hk, rfl, hown, hbw⟩ := hrel
    have HL : Hid (Le W2 wr) := hbw
    have hzr : W2.heap.size ≤ wr.heap.size := Below.size hbw
    clear hbw
    obtain ⟨x0, x1, x2, x3⟩ := HC.out _ HL.out
    have hlen := rnK_len f k
    have hsh := rnK_shut f k
    have hst : Hid (rnK f (k + 1) = rnStep (f k) k (rnK f k)) := rfl
    have hlen1 : (rnK f k).1.length ≤ 100000 := by omega
    by_cases hlt : k < N
    · have hki : (k : Int) < R.e := by have := HN.out; omega
      go_wp2_with (refine wpList_load_ia rfl 30 _ rfl w.heap.size 0 rfl 117 p _ (T.out.pul _ HL.out) Try.underlying30 rfl (by kernel_rfl) ?_)
      ((with_reducible refine (HG.out k (by rw [hNN.out]; exact hlt) wr HL.out).mono ?_); rintro e w4 ⟨rfl, hb4⟩)
      have L4 : Hid (Le W2 w4) := HL.out.trans hb4
      have hown4 := own_below hown hb4
      have hz4 : W2.heap.size ≤ w4.heap.size := Below.size L4.out
      clear hb4 hown x0 x1 x2 x3
      have hopen := rnK_open f k
      rcases hgk : f k with _ | _
      · have hn2 : Hid (rnK f (k + 1) = ((rnK f k).1, false)) := by show _ = _; rw [hst.out, hgk]; rfl
        clear hgk hopen hsh
        go_wp2_with fail
        go_roundw
        case rel => exact ⟨k + 1, by omega, by go_num, by rw [hn2.out]; exact hown4, L4.out⟩
        case measure => simp [intOf]; omega
      · have hst2 : Hid (rnK f (k + 1) = if (rnK f k).2 then ((rnK f k).1.dropLast ++ [⟨((rnK f k).1.getLastD ⟨0, 0⟩).lo, k⟩], true) else ((rnK f k).1 ++ [⟨k, k⟩], true)) := by show _ = _; rw [hst.out, hgk]; rfl
        clear hgk
        generalize rnK f k = q at *
        obtain ⟨l, op⟩ := q
        simp only at hown4 hlen hlen1 hsh hopen
        rcases op with _ | _
        · have hn2 : Hid (rnK f (k + 1) = (l ++ [⟨k, k⟩], true)) := hst2.out
          have hrc := Lib.hid (rc_app l ⟨k, k⟩)
          by_cases hl0 : l.length = 0
          · obtain rfl : l = [] := List.eq_nil_of_length_eq_zero hl0
            obtain ⟨A, c, rfl, _⟩ := Rd.of_rc hown4
            have hown5 : w4.ownsRow W2.heap.size 23 2 (.slice A 0 c) 0 (rc []) := hown4
            clear hl0 hsh hopen hlen hlen1 hown4
            have hown4 := hown5
            clear hown5
            go_wp2_with (at_builtin; go_loud (refine wpList_append_own _ rfl _ _ 68 rfl W2.heap.size 23 i0 _ 2 16 Try.underlying68 hi0 iz0 iz1 iz2 rfl (by decide) _ 0 (rc []) rfl (hown4.alloc _) ⟨w4.heap.size, 0, none⟩ 1 1 [I k, I k] rfl (by rfl) (news_lit (cs := #[I k, I k]) (heap_last _ _ _ (by simp))) ?h1 ?h63 ?hby ?hba ?_))
            case h1 => simp [Value.oneCell']
            case h63 => unfold maxLen; omega
            case hby => omega
            case hba => first | omega | (simp; omega)
            intro v' w5 own5 hg5 _
            have L5 : Hid (Le W2 w5) := ((L4.out.alloc (Below.size L4.out) _).grown hg5 (by simp; omega) (fun g hg => (hown4.lt g hg).1))
            have own6 : Hid (w5.ownsRow W2.heap.size 23 2 v' ([] ++ [(⟨k, k⟩ : Rng)]).length (rc ([] ++ [⟨k, k⟩]))) := by
              show w5.ownsRow _ _ _ _ _ _
              rw [hrc.out]; simpa using own5
            clear own5
            go_wp2_with fail
            go_roundw
            case rel => exact ⟨k + 1, by omega, by go_num, by rw [hn2.out]; exact own6.out, L5.out⟩
            case measure => simp [intOf]; omega
          · obtain ⟨i, x, rfl⟩ := last_split (show 0 < l.length by omega)
            have hx : x.hi < (k : Int) - 1 := hsh.2 rfl x (by simp)
            have hxe : (x.hi == (k : Int) - 1) = false := by rw [beq_eq_false_iff_ne]; omega
            have hll : (i ++ [x]).length = i.length + 1 := by simp
            rw [hll] at hown4 hlen1
            obtain ⟨g, cp, rfl, hg1, hg2⟩ := hown4.form (by omega)
            have hrl : (rc i).length = i.length * 2 := by rw [rc_flat, flat_len]
            have hc : w4.cell? ⟨g, i.length * 2 + 1, none⟩ = some (I x.hi) := by
              rw [hown4.cellAt (i.length * 2 + 1) (by omega), rc_app, List.getElem?_append_right (by omega), hrl]
              simp
            have hil : (i.length : Int) + 1 ≤ 100000 := by omega
            clear hl0 hsh hopen hlen hrl hll
            go_wp2_with (at_builtin; go_loud (refine wpList_append_own _ rfl _ _ 68 rfl W2.heap.size 23 i0 _ 2 16 Try.underlying68 hi0 iz0 iz1 iz2 rfl (by decide) _ (i.length + 1) (rc (i ++ [x])) rfl (hown4.alloc _) ⟨w4.heap.size, 0, none⟩ 1 1 [I k, I k] rfl (by rfl) (news_lit (cs := #[I k, I k]) (heap_last _ _ _ (by simp))) ?h1 ?h63 ?hby ?hba ?_))
            case h1 => simp [Value.oneCell']
            case h63 => unfold maxLen; omega
            case hby => omega
            case hba => first | omega | (simp; omega)
            intro v' w5 own5 hg5 _
            have L5 : Hid (Le W2 w5) := ((L4.out.alloc (Below.size L4.out) _).grown hg5 (by simp; omega) (fun g hg => (hown4.lt g hg).1))
            have own6 : Hid (w5.ownsRow W2.heap.size 23 2 v' ((i ++ [x]) ++ [(⟨k, k⟩ : Rng)]).length (rc ((i ++ [x]) ++ [⟨k, k⟩]))) := by
              show w5.ownsRow _ _ _ _ _ _
              rw [hrc.out]; simpa using own5
            clear own5
            go_wp2_with fail
            go_roundw
            case rel => exact ⟨k + 1, by omega, by go_num, by rw [hn2.out]; exact own6.out, L5.out⟩
            case measure => simp [intOf]; omega
        · obtain ⟨i, x, hix⟩ := hopen rfl
          have hix' : l = i ++ [x] := hix
          subst hix'
          have hn2 : Hid (rnK f (k + 1) = (i ++ [⟨x.lo, k⟩], true)) := by show _ = _; rw [hst2.out]; simp
          have hx : x.hi = (k : Int) - 1 := by have := hsh.1 rfl; simpa using this
          have hxe : (x.hi == (k : Int) - 1) = true := by simpa using hx
          have hll : (i ++ [x]).length = i.length + 1 := by simp
          rw [hll] at hown4 hlen1
          obtain ⟨g, cp, rfl, hg1, hg2⟩ := hown4.form (by omega)
          have hrl : (rc i).length = i.length * 2 := by rw [rc_flat, flat_len]
          have hc : w4.cell? ⟨g, i.length * 2 + 1, none⟩ = some (I x.hi) := by
            rw [hown4.cellAt (i.length * 2 + 1) (by omega), rc_app, List.getElem?_append_right (by omega), hrl]
            simp
          have hfz : w4.frozen? ⟨g, i.length * 2 + 1, none⟩ = false := hown4.frozenAt (i.length * 2 + 1)
          obtain ⟨hst', hgr⟩ := hown4.stored (i.length * 2 + 1) (I k)
          have hset : (rc (i ++ [x])).set (i.length * 2 + 1) (I k) = rc (i ++ [⟨x.lo, k⟩]) := by
            rw [rc_app, rc_app, List.set_append, if_neg (by omega), hrl]
            simp
          rw [hset] at hst'
          have HO := Lib.hid hst'
          have HB4 : Hid (Le W2 (w4.setCell ⟨g, i.length * 2 + 1, none⟩ (I k))) := Below.grown L4.out hgr hz4 (fun g' hg' => by injection hg' with e; omega)
          have hil : (i.length : Int) + 1 ≤ 100000 := by omega
          have hl2 : Hid ((i ++ [(⟨x.lo, k⟩ : Rng)]).length = i.length + 1) := by show _ = _; simp
          clear hix hsh hopen hlen hrl hll hown4 hst' hgr hset hx
          go_wp2_with fail
          go_roundw
          case rel => exact ⟨k + 1, by omega, by go_num, by rw [hn2.out]; show World.ownsRow _ _ _ _ _ (i ++ [(⟨x.lo, k⟩ : Rng)]).length _; rw [hl2.out]; exact HO.out, HB4.out⟩
          case measure => simp [intOf]; omega
    · obtain rfl : k = N := by omega
      have hki : ¬ (k : Int) < R.e := by have := HN.out; omega
      have hfin : Hid (runsF f R.e.toNat = (rnK f k).1) := by show _ = _; rw [hNN.out]; rfl
      obtain ⟨A, c, rfl, hr⟩ := Rd.of_rc hown
      have HR := Lib.hid hr
      have HU := Lib.hid (T.out.up _ HL.out)
      clear hown hr hsh
      go_wp2_with fail
      go_ret
      exact ⟨A, _, c, rfl, by rw [hfin.out], by rw [hfin.out]; exact HR.out, HU.out⟩
end Go.Proofs.Ytlebefopdnadaaa
