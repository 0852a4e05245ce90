/- The contract of stretches of package pull: the stretches of time between two kinds of event. -/
import Derived.Test.YtlebefopdnadaaaGr
namespace Go.Proofs.Ytlebefopdnadaaa
open Go.RowKit
theorem rng_info : (Try.prog.info? 23).map (fun i => (i.zero, i.size, i.bytes)) = some (some (.agg #[I 0, I 0]), 2, 16) := by kernel_rfl
/-- The cells of some ranges. -/
def rc (l : List Rng) : List Value := l.flatMap fun r => [I r.lo, I r.hi]
theorem rc_app (l : List Rng) (r : Rng) : rc (l ++ [r]) = rc l ++ [I r.lo, I r.hi] := by simp [rc]
theorem flat_congr {sz n : Nat} {g g' : Nat → Nat → Value} (h : ∀ k, k < n → ∀ j, j < sz → g k j = g' k j) : flat sz g n = flat sz g' n := by
  apply List.map_congr_left
  intro i hi
  have hi' : i < n * sz := by simpa using hi
  have hs : 0 < sz := by
    rcases Nat.eq_zero_or_pos sz with h0 | h0
    · subst h0; simp at hi'
    · exact h0
  exact h _ ((Nat.div_lt_iff_lt_mul hs).2 hi') _ (Nat.mod_lt _ hs)
theorem at0_app {α : Type} [Inhabited α] (l r : List α) {k : Nat} (hk : k < l.length) : at0 (l ++ r) k = at0 l k := by
  rw [at0_get (by simp; omega), at0_get hk, List.getElem_append_left hk]
theorem at0_last {α : Type} [Inhabited α] (l : List α) (x : α) : at0 (l ++ [x]) l.length = x := by
  rw [at0_get (by simp)]; simp
theorem rc_flat_aux : ∀ (n : Nat) (l : List Rng), l.length = n → rc l = flat 2 (rR l) n
  | 0, l, h => by
    have : l = [] := List.eq_nil_of_length_eq_zero h
    subst this; rfl
  | n + 1, l, h => by
    obtain ⟨i, x, rfl⟩ : ∃ i x, l = i ++ [x] := ⟨l.dropLast, l.getLast (by intro e; subst e; simp at h), (List.dropLast_concat_getLast _).symm⟩
    have hi : i.length = n := by simpa using h
    rw [rc_app, flat_succ 2 (by omega), rc_flat_aux n i hi]
    congr 1
    · exact flat_congr fun k hk j _ => by simp only [rR]; rw [at0_app _ _ (by omega)]
    · show _ = (List.range 2).map (at0 (i ++ [x]) n).c
      rw [← hi, at0_last]; rfl
theorem rc_flat (l : List Rng) : rc l = flat 2 (rR l) l.length := rc_flat_aux _ l rfl
theorem Rd.of_rc {w : World} {base : Nat} {e : TypeId} {v : Value} {l : List Rng} (h : w.ownsRow base e 2 v l.length (rc l)) : ∃ A c, v = .slice A l.length c ∧ Rd w w.heap.size 2 A l.length (rR l) := by
  rw [rc_flat] at h
  exact Rd.of_own h
/-- A call that hands back the ranges l in memory that is new. -/
def RetR (w : World) (l : List Rng) (e : Ending) (w' : World) : Prop := ∃ A n c, e = .returned (.slice A n c) ∧ n = l.length ∧ Rd w' w'.heap.size 2 A n (rR l) ∧ Below w.heap.size w w'
def strStep (o s : Int) (x : Evt) (q : List Rng × Int) : List Rng × Int :=
  if x.kd = o ∧ q.2 < 0 then (q.1, x.t) else if x.kd = s ∧ 0 ≤ q.2 then (q.1 ++ [⟨q.2, x.t⟩], -1) else q
def strK (R : Run) (o s : Int) : Nat → List Rng × Int
  | 0 => ([], -1) | k + 1 => strStep o s (at0 R.es k) (strK R o s k)
def strs (R : Run) (o s : Int) : List Rng :=
  if 0 ≤ (strK R o s R.es.length).2 then (strK R o s R.es.length).1 ++ [⟨(strK R o s R.es.length).2, R.e⟩] else (strK R o s R.es.length).1
theorem strK_len (R : Run) (o s : Int) : ∀ k, (strK R o s k).1.length ≤ k
  | 0 => by simp [strK]
  | k + 1 => by
    have := strK_len R o s k
    simp only [strK, strStep]
    split
    · simp; omega
    · split
      · simp; omega
      · omega
set_option maxRecDepth 100000 in
set_option maxHeartbeats 1000000 in
theorem stretches_any (A1 A2 A3 : Option Addr) (c1 c2 c3 : Nat) (R : Run) (o s : Int) (w : World) (h : RunIn w A1 A2 A3 R) (hl : R.es.length ≤ 1000) :
    Calls Try.prog 71 #[runV A1 A2 A3 c1 c2 c3 R, I o, I s] w (RetR w (strs R o s)) := by
  have He := Lib.hid h.e
  clear h
  obtain ⟨i0, hi0, iz0, iz1, iz2⟩ := info_parts rng_info
  obtain ⟨W0, hW0⟩ : ∃ W0, W0 = w.alloc (.cells #[.slice A1 R.ss.length c1, I R.e, .slice A2 R.ms.length c2, .slice A3 R.es.length c3] 35) := ⟨_, rfl⟩
  have HW0 := Lib.hid hW0
  have hZ0 : Hid (W0.heap.size = w.heap.size + 1) := by subst hW0; simp [Hid]
  have hE0 : Hid (W0.cell? ⟨w.heap.size, 1, none⟩ = some (I R.e)) := by subst hW0; simp [Hid]
  have hU : ∀ W : World, Below (w.heap.size + 1) W0 W → Below w.heap.size w W := fun W h => under (o := .cells #[.slice A1 R.ss.length c1, I R.e, .slice A2 R.ms.length c2, .slice A3 R.es.length c3] 35) (HW0.out ▸ h)
  clear hW0
  have HU := Lib.hid hU
  clear hU
  go_enter Try.func71, Try.ntmps71
  go_wp2
  go_loopw [7, 8, 14] (fun v sn i wr => ∃ k l q, k ≤ R.es.length ∧ i = .int .i64 (k : Nat) ∧ strK R o s k = (l, q) ∧ sn = I q ∧ wr.ownsRow (w.heap.size + 1) 23 2 v l.length (rc l) ∧ Below (w.heap.size + 1) W0 wr) (fun _ _ i _ => R.es.length - (intOf i).toNat)
  case atStart => exact ⟨0, [], -1, by omega, rfl, rfl, rfl, ⟨rfl, .inl ⟨rfl, rfl⟩⟩, by rw [HW0.out]; exact Below.refl _ _⟩
  case round =>
    obtain ⟨k, l, q, hk, rfl, hst, rfl, hown, hbw⟩ := hrel
    have hsz : w.heap.size + 1 ≤ wr.heap.size := by have := hbw.size; rw [hZ0.out] at this; exact this
    have hll : l.length ≤ k := by have := strK_len R o s k; rw [hst] at this; exact this
    have Hst := Lib.hid hst
    clear hst
    by_cases hlt : k < R.es.length
    · obtain ⟨b, of, rfl, hB, x0, x1⟩ := (He.out.below (HU.out _ hbw)).evt hlt
      have hns : Hid (strK R o s (k + 1) = strStep o s (at0 R.es k) (l, q)) := by show strK R o s (k + 1) = _; rw [← Hst.out]; rfl
      by_cases h1 : (at0 R.es k).kd = o ∧ q < 0
      · have hn2 : Hid (strK R o s (k + 1) = (l, (at0 R.es k).t)) := by show _ = _; rw [hns.out, strStep, if_pos h1]
        obtain ⟨h1, h2⟩ := h1
        have h1' : ((at0 R.es k).kd == o) = true := by simpa using h1
        clear h1
        go_wp2_with fail
        go_roundw
        case rel => exact ⟨k + 1, l, _, by omega, by go_num, hn2.out, rfl, hown.alloc _, hbw.alloc (by omega) _⟩
        case measure => simp [intOf]; omega
      by_cases h2 : (at0 R.es k).kd = s ∧ 0 ≤ q
      · have hn2 : Hid (strK R o s (k + 1) = (l ++ [⟨q, (at0 R.es k).t⟩], -1)) := by show _ = _; rw [hns.out, strStep, if_neg h1, if_pos h2]
        have hrc := Lib.hid (rc_app l ⟨q, (at0 R.es k).t⟩)
        obtain ⟨h2, h3⟩ := h2
        have h2' : ((at0 R.es k).kd == s) = true := by simpa using h2
        clear h2 h1
        by_cases h4 : (at0 R.es k).kd = o
        all_goals
          (first | have h4' : ((at0 R.es k).kd == o) = true := by simpa using h4
                 | have h4' : ((at0 R.es k).kd == o) = false := by simpa using h4)
          clear h4
          go_wp2_with (at_builtin; go_loud (refine wpList_append_own _ rfl _ _ 68 rfl (w.heap.size + 1) 23 i0 _ 2 16 Try.underlying68 hi0 iz0 iz1 iz2 rfl (by decide) u7 l.length (rc l) rfl ((hown.alloc _).alloc _) ⟨wr.heap.size + 1, 0, none⟩ 1 1 [I q, I (at0 R.es k).t] rfl (by rfl) (news_lit (cs := #[I q, I (at0 R.es k).t]) (heap_last _ _ _ (by simp))) ?h1 ?h63 ?hby ?hba ?_))
          case h1 => simp [Value.oneCell']
          case h63 => unfold maxLen; omega
          case hby => omega
          case hba => first | omega | (simp; omega)
          intro v' w2 own3 hg2 _
          have hB3 : Below (w.heap.size + 1) W0 w2 := ((hbw.alloc (by omega) _).alloc (by simp; omega) _).grown hg2 (by simp; omega) (fun g hg => (hown.lt g hg).1)
          have own4 : Hid (w2.ownsRow (w.heap.size + 1) 23 2 v' (l ++ [(⟨q, (at0 R.es k).t⟩ : Rng)]).length (rc (l ++ [⟨q, (at0 R.es k).t⟩]))) := by
            show w2.ownsRow _ _ _ _ _ _
            rw [hrc.out]; simpa using own3
          clear own3
          go_wp2_with fail
          go_roundw
          case rel => exact ⟨k + 1, _, _, by omega, by go_num, hn2.out, rfl, own4.out, hB3⟩
          case measure => simp [intOf]; omega
      · have hn2 : Hid (strK R o s (k + 1) = (l, q)) := by show _ = _; rw [hns.out, strStep, if_neg h1, if_neg h2]
        by_cases h4 : (at0 R.es k).kd = o
        · have h5 : ¬ q < 0 := fun e => h1 ⟨h4, e⟩
          have h6 : ((at0 R.es k).kd == s) = false := by simp; intro e; exact h2 ⟨e, by omega⟩
          have h4' : ((at0 R.es k).kd == o) = true := by simpa using h4
          clear h1 h2 h4
          go_wp2_with fail
          go_roundw
          case rel => exact ⟨k + 1, l, q, by omega, by go_num, hn2.out, rfl, hown.alloc _, hbw.alloc (by omega) _⟩
          case measure => simp [intOf]; omega
        · have h4' : ((at0 R.es k).kd == o) = false := by simpa using h4
          by_cases h7 : (at0 R.es k).kd = s
          · have h8 : ¬ 0 ≤ q := fun e => h2 ⟨h7, e⟩
            have h7' : ((at0 R.es k).kd == s) = true := by simpa using h7
            clear h1 h2 h4 h7
            go_wp2_with fail
            go_roundw
            case rel => exact ⟨k + 1, l, q, by omega, by go_num, hn2.out, rfl, hown.alloc _, hbw.alloc (by omega) _⟩
            case measure => simp [intOf]; omega
          · have h7' : ((at0 R.es k).kd == s) = false := by simpa using h7
            clear h1 h2 h4 h7
            go_wp2_with fail
            go_roundw
            case rel => exact ⟨k + 1, l, q, by omega, by go_num, hn2.out, rfl, hown.alloc _, hbw.alloc (by omega) _⟩
            case measure => simp [intOf]; omega
    · have hkn : k = R.es.length := by omega
      subst hkn
      have cE : wr.cell? ⟨w.heap.size, 1, none⟩ = some (I R.e) := (hbw.cell (p := ⟨_, _, none⟩) (by simp)).trans hE0.out
      by_cases h2 : 0 ≤ q
      · have hfin : Hid (strs R o s = l ++ [⟨q, R.e⟩]) := by show _ = _; rw [strs, Hst.out, if_pos h2]
        have hrc := Lib.hid (rc_app l ⟨q, R.e⟩)
        go_wp2_with (at_builtin; go_loud (refine wpList_append_own _ rfl _ _ 68 rfl (w.heap.size + 1) 23 i0 _ 2 16 Try.underlying68 hi0 iz0 iz1 iz2 rfl (by decide) u7 l.length (rc l) rfl (hown.alloc _) ⟨wr.heap.size, 0, none⟩ 1 1 [I q, I R.e] rfl (by rfl) (news_lit (cs := #[I q, I R.e]) (heap_last _ _ _ (by simp))) ?h1 ?h63 ?hby ?hba ?_))
        case h1 => simp [Value.oneCell']
        case h63 => unfold maxLen; omega
        case hby => omega
        case hba => first | omega | (simp; omega)
        intro v' w2 own3 hg2 _
        have hB3 : Below (w.heap.size + 1) W0 w2 := (hbw.alloc (by omega) _).grown hg2 (by simp; omega) (fun g hg => (hown.lt g hg).1)
        have own4 : w2.ownsRow (w.heap.size + 1) 23 2 v' (l ++ [(⟨q, R.e⟩ : Rng)]).length (rc (l ++ [⟨q, R.e⟩])) := by rw [hrc.out]; simpa using own3
        clear own3
        obtain ⟨A, c, rfl, hr⟩ := Rd.of_rc own4
        have HR := Lib.hid hr
        clear hr own4
        go_wp2_with fail
        go_ret
        exact ⟨A, _, c, rfl, by rw [hfin.out], by rw [hfin.out]; exact HR.out, HU.out _ hB3⟩
      · have hfin : Hid (strs R o s = l) := by show _ = _; rw [strs, Hst.out, if_neg h2]
        obtain ⟨A, c, rfl, hr⟩ := Rd.of_rc hown
        have HR := Lib.hid hr
        clear hr
        go_wp2_with fail
        go_ret
        exact ⟨A, _, c, rfl, by rw [hfin.out], by rw [hfin.out]; exact HR.out, HU.out _ hbw⟩
end Go.Proofs.Ytlebefopdnadaaa
