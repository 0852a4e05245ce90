/- The contract of Stretches of the reference. -/
import Derived.Test.YtlebefopdnadaaaPca
import Derived.Laws.OwnMore
namespace Go.Proofs.Ytlebefopdnadaaa
open Go.RowKit
/-- The stretches so far, the open one up to the end. -/
def outS (R : Run) (l : List Rng) (q : Int) : List Rng := if 0 ≤ q then l ++ [⟨q, R.e⟩] else l
theorem strs_outS (R : Run) (o s : Int) : strs R o s = outS R (strK R o s R.es.length).1 (strK R o s R.es.length).2 := rfl
set_option maxRecDepth 100000 in
set_option maxHeartbeats 1000000 in
theorem refStretches_any (A1 A2 A3 : Option Addr) (c1 c2 c3 : Nat) (R : Run) (o s : Int) (w : World) (h : RunIn w A1 A2 A3 R) (hl : R.es.length ≤ 1000) (ht : ∀ k, k < R.es.length → 0 ≤ (at0 R.es k).t) :
    Calls Try.prog 58 #[runV A1 A2 A3 c1 c2 c3 R, I o, I s] w (RetR w (strs R o s)) := by
  have He := Lib.hid h.e
  have Ht := Lib.hid ht
  clear h ht
  obtain ⟨i0, hi0, iz0, iz1, iz2⟩ := info_parts rng_info
  obtain ⟨W0, hW0⟩ : ∃ W0, W0 = w.alloc (.cells #[.slice A1 R.ss.length c1, I R.e, .slice A2 R.ms.length c2, .slice A3 R.es.length c3] 35) := ⟨_, rfl⟩
  have HW0 := Lib.hid hW0
  have hZ0 : Hid (W0.heap.size = w.heap.size + 1) := by subst hW0; simp [Hid]
  have hE0 : Hid (W0.cell? ⟨w.heap.size, 1, none⟩ = some (I R.e)) := by subst hW0; simp [Hid]
  have hE3 : Hid (W0.cell? ⟨w.heap.size, 3, none⟩ = some (.slice A3 R.es.length c3)) := by subst hW0; simp [Hid]
  have hU : ∀ W : World, Below (w.heap.size + 1) W0 W → Below w.heap.size w W := fun W h => under (o := .cells #[.slice A1 R.ss.length c1, I R.e, .slice A2 R.ms.length c2, .slice A3 R.es.length c3] 35) (HW0.out ▸ h)
  clear hW0
  have HU := Lib.hid hU
  clear hU
  go_enter Try.func58, Try.ntmps58
  go_wp2
  go_loopw [7, 8, 9] (fun v op i wr => ∃ k l q, k ≤ R.es.length ∧ i = .int .i64 (k : Nat) ∧ strK R o s k = (l, q) ∧ op = .bool (decide (0 ≤ q)) ∧ wr.ownsRow (w.heap.size + 1) 23 2 v (outS R l q).length (rc (outS R l q)) ∧ Below (w.heap.size + 1) W0 wr) (fun _ _ i _ => R.es.length - (intOf i).toNat)
  case atStart =>
    refine ⟨0, [], -1, by omega, rfl, rfl, rfl, by simpa [outS, rc] using World.ownsRow_lit (base := w.heap.size + 1) (e := 23) (size := 2) (w.alloc (.cells #[.slice A1 R.ss.length c1, I R.e, .slice A2 R.ms.length c2, .slice A3 R.es.length c3] 35)) #[] 0 (by simp) (by unfold maxLen; omega) rfl, ?_⟩
    rw [HW0.out]
    exact (Below.refl _ _).alloc (by simp) _
  case round =>
    obtain ⟨k, l, q, hk, rfl, hst, rfl, hown, hbw⟩ := hrel
    have hsz : w.heap.size + 1 ≤ wr.heap.size := by have := hbw.size; rw [hZ0.out] at this; exact this
    have hll : l.length ≤ k := by have := strK_len R o s k; rw [hst] at this; exact this
    have Hst := Lib.hid hst
    have cE : wr.cell? ⟨w.heap.size, 1, none⟩ = some (I R.e) := (hbw.cell (p := ⟨_, _, none⟩) (by simp)).trans hE0.out
    have cV : wr.cell? ⟨w.heap.size, 3, none⟩ = some (.slice A3 R.es.length c3) := (hbw.cell (p := ⟨_, _, none⟩) (by simp)).trans hE3.out
    clear hst
    have hsw : w.heap.size < wr.heap.size := by omega
    by_cases hlt : k < R.es.length
    · obtain ⟨b, of, rfl, hB, x0, x1⟩ := (He.out.below (HU.out _ hbw)).evt hlt
      have hns : Hid (strK R o s (k + 1) = strStep o s (at0 R.es k) (l, q)) := by show strK R o s (k + 1) = _; rw [← Hst.out]; rfl
      have ht0 : 0 ≤ (at0 R.es k).t := Ht.out k hlt
      by_cases h1 : (at0 R.es k).kd = o ∧ q < 0
      · have hn2 : Hid (strK R o s (k + 1) = (l, (at0 R.es k).t)) := by show _ = _; rw [hns.out, strStep, if_pos h1]
        obtain ⟨h1, h2⟩ := h1
        have h1' : ((at0 R.es k).kd == o) = true := by simpa using h1
        have hq : decide (0 ≤ q) = false := by simpa using h2
        have ho1 : Hid (outS R l q = l) := by show _ = _; unfold outS; rw [if_neg (by omega)]
        have ho2 : Hid (outS R l (at0 R.es k).t = l ++ [⟨(at0 R.es k).t, R.e⟩]) := by show _ = _; unfold outS; rw [if_pos ht0]
        have hd : Hid (true = decide (0 ≤ (at0 R.es k).t)) := (decide_eq_true ht0).symm
        have hrc := Lib.hid (rc_app l ⟨(at0 R.es k).t, R.e⟩)
        rw [ho1.out] at hown
        clear h1
        go_wp2_with (at_builtin; go_loud (refine wpList_append_own _ rfl _ _ 68 rfl (w.heap.size + 1) 23 i0 _ 2 16 Try.underlying68 hi0 iz0 iz1 iz2 rfl (by decide) u7 l.length (rc l) rfl ((hown.alloc _).alloc _) ⟨wr.heap.size + 1, 0, none⟩ 1 1 [I (at0 R.es k).t, I R.e] rfl (by rfl) (news_lit (cs := #[I (at0 R.es k).t, I R.e]) (heap_last _ _ _ (by simp))) ?h1 ?h63 ?hby ?hba ?_))
        case h1 => simp [Value.oneCell']
        case h63 => unfold maxLen; omega
        case hby => omega
        case hba => first | omega | (simp; omega)
        intro v' w2 own3 hg2 _
        have hB3 : Below (w.heap.size + 1) W0 w2 := ((hbw.alloc (by omega) _).alloc (by simp; omega) _).grown hg2 (by simp; omega) (fun g hg => (hown.lt g hg).1)
        have own4 : Hid (w2.ownsRow (w.heap.size + 1) 23 2 v' (l ++ [(⟨(at0 R.es k).t, R.e⟩ : Rng)]).length (rc (l ++ [⟨(at0 R.es k).t, R.e⟩]))) := by
          show w2.ownsRow _ _ _ _ _ _
          rw [hrc.out]; simpa using own3
        clear own3
        go_wp2_with fail
        go_roundw
        case rel => exact ⟨k + 1, _, _, by omega, by go_num, hn2.out, congrArg Value.bool hd.out, by rw [ho2.out]; exact own4.out, hB3⟩
        case measure => simp [intOf]; omega
      by_cases h2 : (at0 R.es k).kd = s ∧ 0 ≤ q
      · have hn2 : Hid (strK R o s (k + 1) = (l ++ [⟨q, (at0 R.es k).t⟩], -1)) := by show _ = _; rw [hns.out, strStep, if_neg h1, if_pos h2]
        have ho1 : outS R l q = l ++ [⟨q, R.e⟩] := by unfold outS; rw [if_pos h2.2]
        have ho2 : Hid (outS R (l ++ [⟨q, (at0 R.es k).t⟩]) (-1) = l ++ [⟨q, (at0 R.es k).t⟩]) := by show _ = _; unfold outS; rw [if_neg (by omega)]
        rw [ho1] at hown
        have hlen : (l ++ [(⟨q, R.e⟩ : Rng)]).length = l.length + 1 := by simp
        rw [hlen] at hown
        obtain ⟨g, cp, rfl, hg1, hg2⟩ := hown.form (by omega)
        have hne : g ≠ wr.heap.size := by omega
        have hq : decide (0 ≤ q) = true := by simpa using h2.2
        have h2' : ((at0 R.es k).kd == s) = true := by simpa using h2.1
        have hrl : (rc l).length = l.length * 2 := by rw [rc_flat, flat_len]
        have hc : wr.cell? ⟨g, l.length * 2 + 1, none⟩ = some (I R.e) := by
          rw [hown.cellAt (l.length * 2 + 1) (by omega), rc_app, List.getElem?_append_right (by omega), hrl]
          simp
        have hfz : wr.frozen? ⟨g, l.length * 2 + 1, none⟩ = false := hown.frozenAt (l.length * 2 + 1)
        obtain ⟨hst, hgr⟩ := hown.stored (l.length * 2 + 1) (I (at0 R.es k).t)
        have hset : (rc (l ++ [⟨q, R.e⟩])).set (l.length * 2 + 1) (I (at0 R.es k).t) = rc (l ++ [⟨q, (at0 R.es k).t⟩]) := by
          rw [rc_app, rc_app, List.set_append, if_neg (by omega), hrl]
          simp
        rw [hset] at hst
        have hrel : Hid ((outS R (l ++ [⟨q, (at0 R.es k).t⟩]) (-1)).length = l.length + 1) := by show _ = _; rw [ho2.out]; simp
        have HO := Lib.hid hst
        have HB4 : Hid (Below (w.heap.size + 1) W0 (wr.setCell ⟨g, l.length * 2 + 1, none⟩ (I (at0 R.es k).t))) := hbw.grown hgr (by omega) (fun g' hg' => by injection hg' with e; omega)
        have hcl : (l.length : Int) + 1 ≤ 1000 := by omega
        clear hown hst hgr hset
        by_cases h4 : (at0 R.es k).kd = o
        all_goals
          (first | have h4' : ((at0 R.es k).kd == o) = true := by simpa using h4
                 | have h4' : ((at0 R.es k).kd == o) = false := by simpa using h4)
          clear h4 h1 h2
          go_wp2_with fail
          go_roundw
          case rel => exact ⟨k + 1, _, _, by omega, by go_num, hn2.out, rfl, by rw [hrel.out, ho2.out]; exact HO.out.alloc _, HB4.out.alloc (by simp; omega) _⟩
          case measure => simp [intOf]; omega
      · have hn2 : Hid (strK R o s (k + 1) = (l, q)) := by show _ = _; rw [hns.out, strStep, if_neg h1, if_neg h2]
        have HC : Hid (∀ P : Prop, (((at0 R.es k).kd == o) = true → decide (0 ≤ q) = true → ((at0 R.es k).kd == s) = false → P) → (((at0 R.es k).kd == o) = false → ((at0 R.es k).kd == s) = false → P) → (((at0 R.es k).kd == o) = false → ((at0 R.es k).kd == s) = true → decide (0 ≤ q) = false → P) → P) := fun P k1 k2 k3 => by
          by_cases a1 : (at0 R.es k).kd = o
          · have a2 : 0 ≤ q := by
              rcases Int.lt_or_le q 0 with hq | hq
              · exact absurd ⟨a1, hq⟩ h1
              · exact hq
            exact k1 (by simpa using a1) (by simpa using a2) (by simp; intro e; exact h2 ⟨e, a2⟩)
          · by_cases a3 : (at0 R.es k).kd = s
            · exact k3 (by simpa using a1) (by simpa using a3) (by simp; have : ¬ 0 ≤ q := fun e => h2 ⟨a3, e⟩; omega)
            · exact k2 (by simpa using a1) (by simpa using a3)
        clear h1 h2
        refine HC.out _ (fun a1 a2 a3 => ?_) (fun a1 a2 => ?_) (fun a1 a2 a3 => ?_)
        all_goals
          clear HC
          go_wp2_with fail
          go_roundw
          case rel => exact ⟨k + 1, _, _, by omega, by go_num, hn2.out, rfl, hown.alloc _, hbw.alloc (by omega) _⟩
          case measure => simp [intOf]; omega
    · obtain rfl : k = R.es.length := by omega
      have hfin : Hid (strs R o s = outS R l q) := by show _ = _; rw [strs_outS, Hst.out]
      obtain ⟨A, c, rfl, hr⟩ := Rd.of_rc hown
      have HR := Lib.hid hr
      clear hr hown
      go_wp2_with fail
      go_ret
      exact ⟨A, _, c, rfl, by rw [hfin.out], by rw [hfin.out]; exact HR.out, HU.out _ hbw⟩
end Go.Proofs.Ytlebefopdnadaaa
