/- Plain laws of a run with one loss of structure more: what may be sold of it is among what may be sold without it. -/
import Derived.Test.YtlebefopdnadaaaSto
import Derived.Test.YtlebefopdnadaaaRl
import Derived.Test.YtlebefopdnadaaaObp
import Derived.Test.YtlebefopdnadaaaTq
namespace Go.Proofs.Ytlebefopdnadaaa
open Go.RowKit
/-- The events with a loss at t put into their order, event by event. -/
def insK (es : List Evt) (t : Int) : Nat → List Evt × Bool
  | 0 => ([], false)
  | k + 1 => if t < (at0 es k).t ∧ (insK es t k).2 = false then ((insK es t k).1 ++ [⟨t, 1⟩] ++ [at0 es k], true) else ((insK es t k).1 ++ [at0 es k], (insK es t k).2)
def insE (es : List Evt) (t : Int) : List Evt := if (insK es t es.length).2 then (insK es t es.length).1 else (insK es t es.length).1 ++ [⟨t, 1⟩]
def lostR (R : Run) (t : Int) : Run := { R with es := insE R.es t }
theorem tk_at {α : Type} [Inhabited α] {l : List α} {k : Nat} (h : k < l.length) : l.take (k + 1) = l.take k ++ [at0 l k] := by
  rw [at0_get h, List.take_succ_eq_append_getElem h]
theorem at0_dr2 {α : Type} [Inhabited α] (l : List α) (m j : Nat) : at0 (l.drop m) j = at0 l (m + j) := by
  unfold at0
  rw [List.getD_eq_getElem?_getD, List.getD_eq_getElem?_getD, List.getElem?_drop]
theorem insK_at (es : List Evt) (t : Int) : ∀ k, k ≤ es.length → ((insK es t k).2 = false ∧ (insK es t k).1 = es.take k ∧ ∀ j, j < k → (at0 es j).t ≤ t) ∨
    ((insK es t k).2 = true ∧ ∃ m, m < k ∧ (∀ j, j < m → (at0 es j).t ≤ t) ∧ t < (at0 es m).t ∧ (insK es t k).1 = es.take m ++ ⟨t, 1⟩ :: (es.drop m).take (k - m))
  | 0, _ => .inl ⟨rfl, by simp [insK], fun j h => by omega⟩
  | k + 1, hk => by
    rcases insK_at es t k (by omega) with ⟨h1, h2, h3⟩ | ⟨h1, m, hm, h2, h3, h4⟩
    · by_cases hc : t < (at0 es k).t
      · right
        rw [insK, if_pos ⟨hc, h1⟩]
        refine ⟨rfl, k, by omega, h3, hc, ?_⟩
        rw [show k + 1 - k = 0 + 1 by omega, tk_at (l := es.drop k) (by simp; omega), at0_dr2, h2]
        simp
      · left
        rw [insK, if_neg (fun h => hc h.1)]
        refine ⟨h1, ?_, fun j hj => ?_⟩
        · rw [tk_at (by omega), h2]
        · rcases Nat.lt_or_ge j k with h | h
          · exact h3 j h
          · obtain rfl : j = k := by omega
            omega
    · right
      rw [insK, if_neg (fun h => by rw [h1] at h; exact Bool.noConfusion h.2)]
      refine ⟨h1, m, by omega, h2, h3, ?_⟩
      rw [show k + 1 - m = (k - m) + 1 by omega, tk_at (l := es.drop m) (by simp; omega), at0_dr2, show m + (k - m) = k by omega, h4]
      simp
theorem insE_at (es : List Evt) (t : Int) : ∃ m, m ≤ es.length ∧ (∀ j, j < m → (at0 es j).t ≤ t) ∧ (m < es.length → t < (at0 es m).t) ∧ insE es t = es.take m ++ ⟨t, 1⟩ :: es.drop m := by
  unfold insE
  rcases insK_at es t es.length (Nat.le_refl _) with ⟨h1, h2, h3⟩ | ⟨h1, m, hm, h2, h3, h4⟩
  · refine ⟨es.length, Nat.le_refl _, h3, fun h => by omega, ?_⟩
    rw [h1, h2]
    simp
  · refine ⟨m, by omega, h2, fun _ => h3, ?_⟩
    rw [h1, if_pos rfl, h4]
    congr 2
    rw [List.take_of_length_le (by simp)]
theorem ins_at0 {es : List Evt} {x : Evt} {m : Nat} (hm : m ≤ es.length) (j : Nat) : at0 (es.take m ++ x :: es.drop m) j = if j < m then at0 es j else if j = m then x else at0 es (j - 1) := by
  unfold at0
  simp only [List.getD_eq_getElem?_getD]
  rw [List.getElem?_append]
  simp only [List.length_take, Nat.min_eq_left hm]
  split
  · rw [List.getElem?_take_of_lt (by assumption)]
  · split
    · rename_i h1 h2
      subst h2
      simp
    · obtain ⟨i, hi⟩ : ∃ i, j - m = i + 1 := ⟨j - m - 1, by omega⟩
      rw [hi, List.getElem?_cons_succ, List.getElem?_drop, show m + i = j - 1 by omega]
theorem lost_len (R : Run) (t : Int) : (lostR R t).es.length = R.es.length + 1 := by
  obtain ⟨m, h1, _, _, h4⟩ := insE_at R.es t
  show (insE R.es t).length = _
  rw [h4]
  simp
  omega
theorem lost_vrun {R : Run} (h : VRun R) {t : Int} (h0 : 0 ≤ t) (h1 : t ≤ R.e) (hn : R.es.length < 20) : VRun (lostR R t) where
  n1 := h.n1
  n60 := h.n60
  m100 := h.m100
  e20 := by rw [lost_len]; omega
  last := h.last
  first := h.first
  tlt := h.tlt
  tup := h.tup
  ph := h.ph
  v := h.v
  mt := h.mt
  mup := h.mup
  mr := h.mr
  et := fun k hk => by
    rw [lost_len] at hk
    obtain ⟨m, g1, g2, g3, g4⟩ := insE_at R.es t
    show 0 ≤ (at0 (insE R.es t) k).t ∧ (at0 (insE R.es t) k).t ≤ R.e
    rw [g4, ins_at0 g1]
    split
    · exact h.et k (by omega)
    · split
      · exact ⟨h0, h1⟩
      · exact h.et _ (by omega)
  eup := fun k hk => by
    rw [lost_len] at hk
    obtain ⟨m, g1, g2, g3, g4⟩ := insE_at R.es t
    show (at0 (insE R.es t) k).t ≤ (at0 (insE R.es t) (k + 1)).t
    rw [g4, ins_at0 g1, ins_at0 g1]
    rcases Nat.lt_trichotomy k m with hkm | hkm | hkm
    · rw [if_pos hkm]
      rcases Nat.lt_or_ge (k + 1) m with hk1 | hk1
      · rw [if_pos hk1]; exact h.eup k (by omega)
      · rw [if_neg (by omega), if_pos (by omega)]; exact g2 k hkm
    · subst hkm
      rw [if_neg (by omega), if_pos rfl, if_neg (by omega), if_neg (by omega), Nat.add_sub_cancel]
      have := g3 (by omega)
      show t ≤ _
      omega
    · rw [if_neg (by omega), if_neg (by omega), if_neg (by omega), if_neg (by omega)]
      have := h.eup (k - 1) (by omega)
      rwa [show k - 1 + 1 = k + 1 - 1 by omega] at this
  ek := fun k hk => by
    rw [lost_len] at hk
    obtain ⟨m, g1, g2, g3, g4⟩ := insE_at R.es t
    show 1 ≤ (at0 (insE R.es t) k).kd ∧ (at0 (insE R.es t) k).kd ≤ 5
    rw [g4, ins_at0 g1]
    split
    · exact h.ek k (by omega)
    · split
      · exact ⟨by show (1 : Int) ≤ 1; omega, by show (1 : Int) ≤ 5; omega⟩
      · exact h.ek _ (by omega)
/-- What is no event of a stretch changes no stretch. -/
theorem lost_strs (R : Run) (t : Int) {o s : Int} (ho : o ≠ 1) (hs : s ≠ 1) : strs (lostR R t) o s = strs R o s := by
  obtain ⟨m, g1, _, _, g4⟩ := insE_at R.es t
  have e : ∀ j, at0 (lostR R t).es j = if j < m then at0 R.es j else if j = m then ⟨t, 1⟩ else at0 R.es (j - 1) := fun j => by
    show at0 (insE R.es t) j = _
    rw [g4, ins_at0 g1]
  have a : ∀ k, k ≤ m → strK (lostR R t) o s k = strK R o s k := by
    intro k
    induction k with
    | zero => intro _; rfl
    | succ k ih =>
      intro hk
      rw [strK, strK, ih (by omega), e, if_pos (by omega)]
  have b : ∀ k, strK (lostR R t) o s (m + 1 + k) = strK R o s (m + k) := by
    intro k
    induction k with
    | zero =>
      rw [Nat.add_zero, Nat.add_zero, strK, a m (Nat.le_refl _), e, if_neg (by omega), if_pos rfl]
      unfold strStep
      rw [if_neg (fun h => ho h.1.symm), if_neg (fun h => hs h.1.symm)]
      rfl
    | succ k ih =>
      rw [show m + 1 + (k + 1) = (m + 1 + k) + 1 by omega, show m + (k + 1) = (m + k) + 1 by omega, strK, strK, ih, e, if_neg (by omega), if_neg (by omega), show m + 1 + k - 1 = m + k by omega]
  have c : strK (lostR R t) o s (lostR R t).es.length = strK R o s R.es.length := by
    rw [lost_len, show R.es.length + 1 = m + 1 + (R.es.length - m) by omega, b, show m + (R.es.length - m) = R.es.length by omega]
  unfold strs
  rw [c]
  rfl
theorem stL_none : ∀ {l : List Evt}, (stL l).2 = 0 → stL l = (-1, 0)
  | [], _ => rfl
  | x :: r, h => by
    simp only [stL] at h ⊢
    split
    · rename_i hx
      rw [if_pos hx] at h
      exact absurd (show (1 : Int) = 0 from h) (by decide)
    · rename_i hx
      rw [if_neg hx] at h
      exact stL_none h
theorem stL_some : ∀ {l : List Evt}, ¬ (stL l).2 = 0 → (stL l).2 = 1 ∧ ∃ j, j < l.length ∧ (stL l).1 = (at0 l j).t
  | [], h => absurd rfl h
  | x :: r, h => by
    simp only [stL] at h ⊢
    split
    · exact ⟨rfl, 0, by simp, rfl⟩
    · rename_i hx
      rw [if_neg hx] at h
      obtain ⟨h1, j, hj, h2⟩ := stL_some h
      exact ⟨h1, j + 1, by simp; omega, h2⟩
theorem stL_app : ∀ (a b : List Evt), stL (a ++ b) = if (stL a).2 = 0 then stL b else stL a
  | [], b => rfl
  | x :: a, b => by
    simp only [List.cons_append, stL]
    split
    · rfl
    · exact stL_app a b
theorem lost_stop0 {R : Run} (h : VRun R) {t : Int} (h0 : 0 ≤ t) : (stop0 (lostR R t)).2 = 1 ∧ 0 ≤ (stop0 (lostR R t)).1 ∧ (stop0 (lostR R t)).1 ≤ t ∧ (¬ (stop0 R).2 = 0 → (stop0 (lostR R t)).1 ≤ (stop0 R).1) ∧ ((stop0 R).2 = 0 → (stop0 R).1 = -1) := by
  obtain ⟨m, g1, g2, g3, g4⟩ := insE_at R.es t
  have e1 : stop0 (lostR R t) = if (stL (R.es.take m)).2 = 0 then (t, 1) else stL (R.es.take m) := by
    rw [← stL_stop0]
    show stL (insE R.es t) = _
    rw [g4, stL_app]
    rfl
  have e2 : stop0 R = if (stL (R.es.take m)).2 = 0 then stL (R.es.drop m) else stL (R.es.take m) := by
    rw [← stL_stop0, ← stL_app, List.take_append_drop]
  have e3 : (stop0 R).2 = 0 → (stop0 R).1 = -1 := fun hz => by
    rw [← stL_stop0] at hz ⊢
    rw [stL_none hz]
  rw [e1]
  by_cases hc : (stL (R.es.take m)).2 = 0
  · rw [if_pos hc] at e2 ⊢
    refine ⟨rfl, h0, Int.le_refl _, fun hn => ?_, e3⟩
    rw [e2] at hn ⊢
    obtain ⟨_, j, hj, h2⟩ := stL_some hn
    simp only [List.length_drop] at hj
    rw [h2, at0_dr2]
    have := g3 (by omega)
    have := et_mono h (show m ≤ m + j by omega) (by omega)
    show t ≤ _
    omega
  · rw [if_neg hc] at e2 ⊢
    obtain ⟨h1, j, hj, h2⟩ := stL_some hc
    have hj : j < m := by simp at hj; omega
    have ej : at0 (R.es.take m) j = at0 R.es j := by
      unfold at0
      rw [List.getD_eq_getElem?_getD, List.getD_eq_getElem?_getD, List.getElem?_take_of_lt hj]
    rw [ej] at h2
    have := g2 j hj
    have := (h.et j (by omega)).1
    refine ⟨h1, by omega, by omega, fun hn => by rw [e2]; exact Int.le_refl _, e3⟩
theorem lost_stop {p : Vec} {R : Run} (h : VRun R) (hh : 0 ≤ p 115) {t : Int} (h0 : 0 ≤ t) : ¬ (stopF p (lostR R t)).2 = 0 ∧ 0 ≤ (stopF p (lostR R t)).1 ∧ (stopF p (lostR R t)).1 ≤ t ∧ (¬ (stopF p R).2 = 0 → (stopF p (lostR R t)).1 ≤ (stopF p R).1) := by
  obtain ⟨s1, s2, s3, s4, s5⟩ := lost_stop0 h h0
  unfold stopF
  rw [lost_strs R t (by decide) (by decide)]
  have hb := strs_bd h 4 5
  generalize strs R 4 5 = l at *
  simp only
  generalize stop0 (lostR R t) = q1 at *
  generalize stop0 R = q at *
  split
  · rename_i hi
    have hl := (hb (at0 l (ixOf (longB (p 115)) l).toNat) (by
      have := ixOf_lt (longB (p 115)) l
      rw [at0_get (by omega)]
      exact List.getElem_mem _)).1
    generalize (at0 l (ixOf (longB (p 115)) l).toNat).lo = a at *
    by_cases hx : q1.1 < 0 ∨ a + p 115 < q1.1
    · rw [if_pos hx]
      refine ⟨(by decide : ¬ (4 : Int) = 0), by show 0 ≤ a + _; omega, by show a + p 115 ≤ t; omega, fun _ => ?_⟩
      show a + p 115 ≤ _
      by_cases hy : q.1 < 0 ∨ a + p 115 < q.1
      · rw [if_pos hy]
        exact Int.le_refl _
      · rw [if_neg hy]
        omega
    · rw [if_neg hx]
      refine ⟨by omega, s2, s3, fun hn => ?_⟩
      by_cases hy : q.1 < 0 ∨ a + p 115 < q.1
      · rw [if_pos hy]
        show q1.1 ≤ a + p 115
        omega
      · rw [if_neg hy] at hn ⊢
        exact s4 hn
  · exact ⟨by omega, s2, s3, s4⟩
theorem lost_plS (R : Run) (t : Int) : ∀ k, plS (lostR R t) k = plS R k
  | 0 => rfl
  | k + 1 => by rw [plS, plS, lost_plS R t k]; rfl
theorem lost_place (R : Run) (t s : Int) : placeR (lostR R t) s = placeR R s := by
  have e : pcs (lostR R t) = pcs R := by
    unfold pcs
    refine congrArg (fun f => List.map f _) (funext fun k => ?_)
    unfold pcS
    rw [lost_plS]
    rfl
  unfold placeR
  rw [e]
  rfl
theorem lost_seen (R : Run) (t : Int) : ∀ j, seenK (lostR R t) j = seenK R j
  | 0 => rfl
  | j + 1 => by rw [seenK, seenK, lost_seen R t j]; rfl
theorem lost_seenF (R : Run) (t : Int) : seenF (lostR R t) = seenF R := lost_seen R t R.ms.length
theorem lost_bef (p : Vec) (R : Run) (t : Int) : ∀ k, befF p (lostR R t) k = befF p R k
  | 0 => by rw [befF, befF, lost_seenF]
  | k + 1 => by rw [befF, befF, lost_seenF, lost_bef p R t k]
theorem lost_frmD (p : Vec) (R : Run) (t : Int) : ∀ k, frmD p (lostR R t) k = frmD p R k
  | 0 => by rw [frmD, frmD, lost_seenF]; rfl
  | k + 1 => by rw [frmD, frmD, lost_seenF, lost_frmD p R t k]; rfl
theorem lost_good (p : Vec) (R : Run) (t : Int) (k : Nat) : goodB p (lostR R t) k = goodB p R k := by
  unfold goodB fromK frmF
  rw [lost_bef, lost_frmD]
  rfl
theorem lost_bdP (R : Run) (t : Int) : ∀ k, bdP (lostR R t) k = bdP R k
  | 0 => rfl
  | k + 1 => by rw [bdP, bdP, lost_bdP R t k]; rfl
theorem lost_sell (p : Vec) (R : Run) (t : Int) : sellF p (lostR R t) = sellF p R := by
  funext k
  unfold sellF badF outL
  rw [lost_good, lost_strs R t (by decide) (by decide), lost_strs R t (by decide) (by decide), lost_bdP]
  rfl
theorem lost_chE {p : Vec} {R : Run} (h : VRun R) {t : Int} (h0 : 0 ≤ t) (h1 : t ≤ R.e) (hn : R.es.length < 20) (hc : chE p R = 0) : chE p (lostR R t) = 0 := by
  have e1 : okRun R = true := (vRun_iff R).2 h
  have e2 : okRun (lostR R t) = true := (vRun_iff _).2 (lost_vrun h h0 h1 hn)
  have e3 : conf p (lostR R t) = conf p R := rfl
  unfold chE at hc ⊢
  rw [e1] at hc
  rw [e2, e3]
  exact hc
/-- The runs of fewer seconds are within those of more. -/
theorem rn_step {f : Nat → Bool} {k : Nat} {r : Rng} (h : r ∈ (rnK f k).1) : ∃ s, s ∈ (rnK f (k + 1)).1 ∧ s.lo = r.lo ∧ r.hi ≤ s.hi := by
  have hr := runsL f k
  rw [rnK, rnStep]
  split
  · split
    · rename_i hop
      obtain ⟨i, x, e, hx⟩ := hr.opn hop
      rw [e] at h ⊢
      rcases List.mem_append.1 h with h | h
      · exact ⟨r, by simp [h], rfl, Int.le_refl _⟩
      · obtain rfl := List.mem_singleton.1 h
        exact ⟨⟨r.lo, k⟩, by simp, rfl, by show r.hi ≤ (k : Int); omega⟩
    · exact ⟨r, List.mem_append_left _ h, rfl, Int.le_refl _⟩
  · exact ⟨r, h, rfl, Int.le_refl _⟩
theorem rn_more {f : Nat → Bool} {k : Nat} {r : Rng} (h : r ∈ (rnK f k).1) : ∀ d, ∃ s, s ∈ (rnK f (k + d)).1 ∧ s.lo = r.lo ∧ r.hi ≤ s.hi
  | 0 => ⟨r, h, rfl, Int.le_refl _⟩
  | d + 1 => by
    obtain ⟨s, h1, h2, h3⟩ := rn_more h d
    obtain ⟨s', g1, g2, g3⟩ := rn_step h1
    exact ⟨s', g1, by omega, by omega⟩
theorem most_slip {p : Vec} {R : Run} (hv : VRun R) (hp : VPul p) : mostF p R ≤ placeR R R.e := by
  have he : 0 ≤ R.e := by have := hv.first; have := hv.tlt 0 hv.n1; omega
  have := hp.slip
  unfold mostF
  split
  · exact Int.le_refl _
  · rename_i h
    obtain ⟨h1, h2⟩ := stopF_on hv hp h
    have := placeR_mono hv h1 h2 (Int.le_refl _)
    omega
/-- What may be sold of the run with the loss is within what may be sold without it, and not above the place of the loss less the slip. -/
theorem lost_sold {p : Vec} {R : Run} (hv : VRun R) (hp : VPul p) {t : Int} (h0 : 0 ≤ t) (h1 : t ≤ R.e) (hn : R.es.length < 20) (hc : chE p R = 0) :
    ∀ r ∈ soldL p (lostR R t), (∃ s ∈ soldL p R, s.lo ≤ r.lo ∧ r.hi ≤ s.hi) ∧ r.hi ≤ placeR R t - p 114 := by
  intro r hr
  obtain ⟨s1, s2, s3, s4⟩ := lost_stop hv hp.hold.1 h0
  have hsl := hp.slip.1
  have he : 0 ≤ R.e := by omega
  rw [soldL, if_pos (lost_chE hv h0 h1 hn hc), soldK, List.mem_filterMap] at hr
  obtain ⟨q, hq, hr⟩ := hr
  split at hr
  · rename_i hlt
    have hr := Option.some.inj hr
    subst hr
    have hm : mostF p (lostR R t) = placeR R (stopF p (lostR R t)).1 - p 114 := by
      unfold mostF
      rw [if_neg s1, lost_place]
    have hen : endF p (lostR R t) = (stopF p (lostR R t)).1 := if_neg s1
    rw [lost_sell, hen] at hq
    unfold soldR at hlt ⊢
    simp only [lost_place, hm] at hlt ⊢
    have hst : (stopF p (lostR R t)).1 ≤ endF p R := by
      unfold endF
      split
      · omega
      · exact s4 (by assumption)
    have hend : endF p R ≤ R.e := by
      unfold endF
      split
      · exact Int.le_refl _
      · exact (stopF_on hv hp (by assumption)).2
    have hmost : placeR R (stopF p (lostR R t)).1 - p 114 ≤ mostF p R := by
      unfold mostF
      split
      · have := placeR_mono hv s2 (show _ ≤ R.e by omega) (Int.le_refl _)
        omega
      · rename_i hz
        have := placeR_mono hv s2 (s4 hz) (stopF_on hv hp hz).2
        omega
    obtain ⟨s, g1, g2, g3⟩ := rn_more hq ((endF p R).toNat - (stopF p (lostR R t)).1.toNat)
    rw [show (stopF p (lostR R t)).1.toNat + ((endF p R).toNat - (stopF p (lostR R t)).1.toNat) = (endF p R).toNat by omega] at g1
    have hb := rnK_bd _ _ s g1
    have hbq := rnK_bd _ _ q hq
    have hpl : placeR R (q.hi + 1) ≤ placeR R (s.hi + 1) := placeR_mono hv (by omega) (by omega) (by omega)
    have hpt := placeR_mono hv s2 s3 h1
    refine ⟨⟨soldR p R s, ?_, ?_, ?_⟩, by omega⟩
    · rw [soldL, if_pos hc, soldK, List.mem_filterMap]
      refine ⟨s, g1, if_pos ?_⟩
      show placeR R s.lo < min (placeR R (s.hi + 1)) (mostF p R)
      rw [g2]
      omega
    · show placeR R s.lo ≤ placeR R q.lo
      rw [g2]
      exact Int.le_refl _
    · show min _ _ ≤ min (placeR R (s.hi + 1)) (mostF p R)
      omega
  · cases hr
/-- What may be sold lies in its order, from the place 0 on, not above the place of the stop less the slip. -/
theorem sold_order {p : Vec} {R : Run} (hv : VRun R) (hp : VPul p) (hc : chE p R = 0) :
    (∀ r ∈ soldL p R, 0 ≤ r.lo ∧ r.lo < r.hi ∧ r.hi ≤ mostF p R) ∧ (soldL p R).Pairwise fun a b => a.hi ≤ b.lo := by
  have he : 0 ≤ R.e := by have := hv.first; have := hv.tlt 0 hv.n1; omega
  have hend : 0 ≤ endF p R ∧ endF p R ≤ R.e := by
    unfold endF
    split
    · omega
    · exact stopF_on hv hp (by assumption)
  rw [soldL, if_pos hc]
  generalize hN : (endF p R).toNat = N
  have hb := rnK_bd (sellF p R) N
  constructor
  · intro r hr
    rw [soldK, List.mem_filterMap] at hr
    obtain ⟨q, hq, hr⟩ := hr
    split at hr
    · rename_i hlt
      have hr := Option.some.inj hr
      subst hr
      refine ⟨(placeR_bd hv (hb q hq).1).1, hlt, ?_⟩
      show min _ _ ≤ _
      omega
    · cases hr
  · have hg := (runsL (sellF p R) N)
    have hp1 : (rnK (sellF p R) N).1.Pairwise fun a b => a.hi + 1 ≤ b.lo ∧ 0 ≤ a.hi + 1 ∧ b.lo ≤ R.e := by
      rw [List.pairwise_iff_getElem]
      intro i j hi hj hij
      have key : ∀ d, i + 1 + d < (rnK (sellF p R) N).1.length → (at0 (rnK (sellF p R) N).1 i).hi + 1 ≤ (at0 (rnK (sellF p R) N).1 (i + 1 + d)).lo := by
        intro d
        induction d with
        | zero =>
          intro h
          have := hg.gap i h
          rw [Nat.add_zero]
          omega
        | succ d ih =>
          intro h
          have h1 := ih (by omega)
          have h2 := hg.gap (i + 1 + d) h
          have h3 := hg.bd (i + 1 + d) (by omega)
          rw [show i + 1 + (d + 1) = i + 1 + d + 1 by omega]
          omega
      have h1 := key (j - (i + 1)) (by omega)
      rw [show i + 1 + (j - (i + 1)) = j by omega, at0_get hi, at0_get hj] at h1
      have h2 := hb _ (List.getElem_mem hi)
      have h3 := hb _ (List.getElem_mem hj)
      exact ⟨h1, by omega, by omega⟩
    refine List.Pairwise.filterMap _ ?_ hp1
    intro a a' hq b hb b' hb'
    split at hb
    · split at hb'
      · have hb := Option.some.inj hb
        have hb' := Option.some.inj hb'
        subst hb; subst hb'
        have := placeR_mono hv hq.2.1 hq.1 hq.2.2
        show min _ _ ≤ placeR R a'.lo
        omega
      · cases hb'
    · cases hb
/-- One of the first k ranges holds all of r. -/
def fitK (r : Rng) (l : List Rng) : Nat → Bool
  | 0 => false
  | k + 1 => fitK r l k || (decide ((at0 l k).lo ≤ r.lo) && decide (r.hi ≤ (at0 l k).hi))
theorem fit_iff {r : Rng} {l : List Rng} : ∀ k, fitK r l k = true ↔ ∃ j, j < k ∧ (at0 l j).lo ≤ r.lo ∧ r.hi ≤ (at0 l j).hi
  | 0 => ⟨fun h => (by cases h), fun ⟨j, hj, _⟩ => absurd hj (by omega)⟩
  | k + 1 => by
    rw [fitK, Bool.or_eq_true, fit_iff k, Bool.and_eq_true, decide_eq_true_eq, decide_eq_true_eq]
    constructor
    · rintro (⟨j, hj, h⟩ | h)
      · exact ⟨j, by omega, h⟩
      · exact ⟨k, by omega, h⟩
    · rintro ⟨j, hj, h⟩
      rcases Nat.lt_or_ge j k with hjk | hjk
      · exact .inl ⟨j, hjk, h⟩
      · obtain rfl : j = k := by omega
        exact .inr h
theorem less_at {p : Vec} {R : Run} (hv : VRun R) (hp : VPul p) {t : Int} (h0 : 0 ≤ t) (h1 : t ≤ R.e) (hn : R.es.length < 20) (hc : chE p R = 0) {i : Nat} (hi : i < (soldL p (lostR R t)).length) :
    fitK (at0 (soldL p (lostR R t)) i) (soldL p R) (soldL p R).length = true ∧ (at0 (soldL p (lostR R t)) i).hi ≤ placeR R t - p 114 := by
  obtain ⟨⟨s, hs, h2, h3⟩, h4⟩ := lost_sold hv hp h0 h1 hn hc _ (at0_in hi)
  refine ⟨(fit_iff _).2 ?_, h4⟩
  obtain ⟨j, hj, rfl⟩ := List.getElem_of_mem hs
  refine ⟨j, hj, ?_⟩
  rw [at0_get hj]
  exact ⟨h2, h3⟩
theorem sold_at {p : Vec} {R : Run} (hv : VRun R) (hp : VPul p) (hc : chE p R = 0) {i : Nat} (hi : i < (soldL p R).length) :
    0 ≤ (at0 (soldL p R) i).lo ∧ (at0 (soldL p R) i).lo < (at0 (soldL p R) i).hi ∧ (at0 (soldL p R) i).hi ≤ mostF p R ∧ (0 < i → (at0 (soldL p R) (i - 1)).hi ≤ (at0 (soldL p R) i).lo) := by
  obtain ⟨h1, h2⟩ := sold_order hv hp hc
  obtain ⟨g1, g2, g3⟩ := h1 _ (at0_in hi)
  refine ⟨g1, g2, g3, fun h => ?_⟩
  rw [at0_get (show i - 1 < _ by omega), at0_get hi]
  exact List.pairwise_iff_getElem.1 h2 (i - 1) i (by omega) hi (by omega)
end Go.Proofs.Ytlebefopdnadaaa
