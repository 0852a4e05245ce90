/- The plain law of PullSteady, second part: the run that is steered is valid and breaks neither bounds nor ramps. -/
import Derived.Test.YtbojgcaehlapiaaSd
namespace Go.Proofs.Ytbojgcaehlapiaa.Un
open Go.RowKit
/-- The puller whose first n rules ask nothing of seconds and lengths. -/
def rqK (p : Vec) (n : Nat) : Vec := fun j => if j < n * 22 then (if j % 22 = 18 then 0 else if j % 22 = 19 then 100000 else if j % 22 = 20 then 0 else if j % 22 = 21 then 10000000000 else p j) else p j
theorem rqK_zero (p : Vec) : rqK p 0 = p := by funext j; unfold rqK; rw [if_neg (by omega)]
theorem rqK_other (p : Vec) {n j : Nat} (h : j % 22 < 18 ∨ n * 22 ≤ j) : rqK p n j = p j := by
  unfold rqK
  by_cases h1 : j < n * 22
  · rw [if_pos h1, if_neg (by omega), if_neg (by omega), if_neg (by omega), if_neg (by omega)]
  · rw [if_neg h1]
theorem rqK_at (p : Vec) {n k : Nat} (h : k < n) : rqK p n (k * 22 + 18) = 0 ∧ rqK p n (k * 22 + 19) = 100000 ∧ rqK p n (k * 22 + 20) = 0 ∧ rqK p n (k * 22 + 21) = 10000000000 := by
  unfold rqK
  refine ⟨?_, ?_, ?_, ?_⟩
  · rw [if_pos (by omega), if_pos (by omega)]
  · rw [if_pos (by omega), if_neg (by omega), if_pos (by omega)]
  · rw [if_pos (by omega), if_neg (by omega), if_neg (by omega), if_pos (by omega)]
  · rw [if_pos (by omega), if_neg (by omega), if_neg (by omega), if_neg (by omega), if_pos (by omega)]
theorem rqK_step (p : Vec) (k : Nat) (g1 g2 : Vec) (h1 : g1 0 = 0) (h2 : g1 1 = 100000) (h3 : g2 0 = 0) (h4 : g2 1 = 10000000000) : ia 117 (ovw (ovw (rqK p k) (k * 22 + 18) 2 g1) (k * 22 + 20) 2 g2) = ia 117 (rqK p (k + 1)) := ia_congr fun i _ => by
  obtain ⟨a1, a2, a3, a4⟩ := rqK_at p (Nat.lt_succ_self k)
  unfold ovw
  by_cases c1 : i = k * 22 + 18
  · subst c1; rw [if_neg (by omega), if_pos (by omega), a1, Nat.sub_self]; exact h1
  · by_cases c2 : i = k * 22 + 19
    · subst c2; rw [if_neg (by omega), if_pos (by omega), a2, show k * 22 + 19 - (k * 22 + 18) = 1 by omega]; exact h2
    · by_cases c3 : i = k * 22 + 20
      · subst c3; rw [if_pos (by omega), a3, Nat.sub_self]; exact h3
      · by_cases c4 : i = k * 22 + 21
        · subst c4; rw [if_pos (by omega), a4, show k * 22 + 21 - (k * 22 + 20) = 1 by omega]; exact h4
        · rw [if_neg (by omega), if_neg (by omega)]
          unfold rqK
          by_cases c5 : i < k * 22
          · simp only [if_pos c5, if_pos (show i < (k + 1) * 22 by omega)]
          · rw [if_neg c5]
            by_cases c6 : i < (k + 1) * 22
            · rw [if_pos c6, if_neg (by omega), if_neg (by omega), if_neg (by omega), if_neg (by omega)]
            · rw [if_neg c6]
theorem rq_ok {p : Vec} (h : okPuller p = true) : okPuller (rqK p 5) = true := by
  unfold okPuller at *
  rw [Bool.and_eq_true, List.all_eq_true] at *
  obtain ⟨h1, h2⟩ := h
  refine ⟨fun k hk => ?_, ?_⟩
  · have hr := h1 k hk
    have hk5 : k < 5 := by simpa using hk
    unfold ruleB at *
    have e : ∀ i, i < 18 → rqK p 5 (k * 22 + i) = p (k * 22 + i) := fun i hi => rqK_other p (.inl (by omega))
    have e0 : rqK p 5 (k * 22) = p (k * 22) := e 0 (by omega)
    have eb : bnds (rqK p 5) (k * 22) = bnds p (k * 22) := by
      unfold bnds
      rw [e0, e 1 (by omega), e 2 (by omega), e 3 (by omega), e 4 (by omega), e 5 (by omega), e 6 (by omega), e 7 (by omega), e 8 (by omega), e 9 (by omega), e 10 (by omega), e 11 (by omega)]
    have er : rmps (rqK p 5) (k * 22) = rmps p (k * 22) := by
      unfold rmps
      rw [e 12 (by omega), e 13 (by omega), e 14 (by omega), e 15 (by omega), e 16 (by omega), e 17 (by omega)]
    obtain ⟨a1, a2, a3, a4⟩ := rqK_at p hk5
    rw [eb, er, a1, a2, a3, a4]
    simp only [Bool.and_eq_true] at hr ⊢
    refine ⟨⟨hr.1.1, ?_⟩, ?_⟩
    · rw [rangeB_iff]; simp
    · rw [rangeB_iff]; simp
  · unfold restB at *
    have e : ∀ i, 110 ≤ i → rqK p 5 i = p i := fun i hi => rqK_other p (.inr (by omega))
    rw [e 110 (by omega), e 111 (by omega), e 112 (by omega), e 113 (by omega), e 114 (by omega), e 115 (by omega), e 116 (by omega)]
    exact h2
def atQ (s : Stg) (z : Nat → Int) : Int := s.t + 1 + (z 0).tmod 100
def xQ (z : Nat → Int) : Rng := ⟨z 1, z 1 + (z 2).tmod 100⟩
def yQ (z : Nat → Int) : Rng := ⟨z 1 + 1, z 1 + (z 2).tmod 100 + 5⟩
/-- The settings that Steer answers, one after another. -/
def sqQ (p : Vec) (g h : Rng) (s0 : Stg) (z : Nat → Nat → Int) : Nat → Stg
  | 0 => s0
  | i + 1 => nxSt p g h (sqQ p g h s0 z i) (atQ (sqQ p g h s0 z i) (z i)) (xQ (z i))
structure Good (p : Vec) (s : Stg) (i : Nat) : Prop where
  set : okSet s = true
  ph : s.ph = 1
  t : 0 ≤ s.t ∧ s.t ≤ 100 * i
  bd : ∀ k, k < 6 → p (k * 2) ≤ s.v k ∧ s.v k ≤ p (k * 2 + 1)
theorem tm_bd {a : Int} (h : 0 ≤ a) : 0 ≤ a.tmod 100 ∧ a.tmod 100 < 100 := ⟨Int.tmod_nonneg _ h, Int.tmod_lt_of_pos _ (by omega)⟩
theorem st_ok {p : Vec} {s : Stg} {i : Nat} {z : Nat → Int} (hp : okPuller p = true) (hs : Good p s i) (hi : i < 40) (hz : ∀ j, j < 3 → 0 ≤ z j ∧ z j ≤ 65535) : StOk p s (atQ s z) (xQ z) ∧ StOk p s (atQ s z) (yQ z) := by
  have h0 := hz 0 (by omega)
  have h1 := hz 1 (by omega)
  have h2 := hz 2 (by omega)
  have m0 := tm_bd h0.1
  have m2 := tm_bd h2.1
  have ht := hs.t
  have htt : 0 ≤ s.t ∧ s.t < atQ s z ∧ atQ s z ≤ 100000 := by unfold atQ; omega
  refine ⟨⟨hp, hs.set, hs.ph, htt, ?_, hs.bd⟩, ⟨hp, hs.set, hs.ph, htt, ?_, hs.bd⟩⟩
  · rw [rangeB_iff]; simp [xQ]; omega
  · rw [rangeB_iff]; simp [yQ]; omega
theorem good_next {p : Vec} {g h : Rng} {s : Stg} {i : Nat} {z : Nat → Int} (hp : okPuller p = true) (hs : Good p s i) (hi : i < 40) (hz : ∀ j, j < 3 → 0 ≤ z j ∧ z j ≤ 65535) : Good p (nxSt p g h s (atQ s z) (xQ z)) (i + 1) := by
  have hk := (st_ok hp hs hi hz).1
  refine ⟨?_, hs.ph, ?_, fun k hk6 => ?_⟩
  · rw [okSet_iff]
    refine ⟨by show 1 ≤ s.ph ∧ s.ph ≤ 5; rw [hs.ph]; omega, fun k hk6 => ?_⟩
    have h1 := nx_between (g := g) (h := h) hk hk6
    have h2 := (vPul_of hp).bd 0 (by omega) k hk6
    rw [Nat.zero_mul, Nat.zero_add] at h2
    omega
  · have := hs.t
    have h0 := tm_bd (hz 0 (by omega)).1
    show 0 ≤ atQ s z ∧ atQ s z ≤ _
    unfold atQ
    omega
  · have h1 := nx_between (g := g) (h := h) hk hk6
    exact ⟨h1.1, h1.2.1⟩
theorem good_all {p : Vec} {g h : Rng} {s0 : Stg} {z : Nat → Nat → Int} (hp : okPuller p = true) (h0 : Good p s0 0) : ∀ i, i ≤ 40 → (∀ k, k < i → ∀ j, j < 3 → 0 ≤ z k j ∧ z k j ≤ 65535) → Good p (sqQ p g h s0 z i) i
  | 0, _, _ => h0
  | i + 1, hi, hz => good_next hp (good_all hp h0 i (by omega) fun k hk => hz k (by omega)) (by omega) (hz i (by omega))
def ssQ (p : Vec) (g h : Rng) (s0 : Stg) (z : Nat → Nat → Int) (n : Nat) : List Stg := (List.range (n + 1)).map (sqQ p g h s0 z)
theorem ssQ_len (p : Vec) (g h : Rng) (s0 : Stg) (z : Nat → Nat → Int) (n : Nat) : (ssQ p g h s0 z n).length = n + 1 := by simp [ssQ]
theorem ssQ_at (p : Vec) (g h : Rng) (s0 : Stg) (z : Nat → Nat → Int) {n k : Nat} (hk : k ≤ n) : at0 (ssQ p g h s0 z n) k = sqQ p g h s0 z k := by
  unfold ssQ
  rw [at0_get (by simp; omega)]
  simp
abbrev rnQ (p : Vec) (g h : Rng) (s0 : Stg) (z : Nat → Nat → Int) (n : Nat) : Run := ⟨ssQ p g h s0 z n, 100000, [], []⟩
theorem run_ok {p : Vec} {g h : Rng} {s0 : Stg} {z : Nat → Nat → Int} {n : Nat} (hp : okPuller p = true) (h0 : Good p s0 0) (hn : n ≤ 40) (hz : ∀ k, k < n → ∀ j, j < 3 → 0 ≤ z k j ∧ z k j ≤ 65535) : okRun (rnQ p g h s0 z n) = true := by
  unfold okRun
  simp only [Bool.and_eq_true]
  refine ⟨⟨⟨?_, ?_⟩, by simp⟩, by simp⟩
  · simp [headB, ssQ_len]; omega
  · rw [ssQ_len]
    refine all_yes fun k hk => ?_
    have hg := good_all (g := g) (h := h) hp h0 k (by omega) fun i hi => hz i (by omega)
    have ht := hg.t
    unfold setAt
    rw [ssQ_at p g h s0 z (by omega), hg.set]
    simp only [Bool.true_and, Bool.and_eq_true, decide_eq_true_eq]
    refine ⟨⟨?_, ?_⟩, by show _ < (100000 : Int); omega⟩
    · cases k with
      | zero => show (0 : Int) ≤ _; exact ht.1
      | succ k =>
        show (at0 (ssQ p g h s0 z n) k).t + 1 ≤ _
        rw [ssQ_at p g h s0 z (by omega)]
        show _ ≤ atQ (sqQ p g h s0 z k) (z k)
        have := tm_bd (hz k (by omega) 0 (by omega)).1
        unfold atQ
        omega
    · by_cases hk0 : k = 0
      · subst hk0; have h1 : s0.t ≤ 0 := by simpa using h0.t.2
        simp [sqQ, h1]
      · simp [hk0]
theorem six_no {f : Nat → Bool} (h : ∀ g, g < 6 → f g = false) : six f = none := find_no h
theorem bfQ (p : Vec) (g h : Rng) (s0 : Stg) (z : Nat → Nat → Int) (n k : Nat) (hk : k ≤ n) : (bfS (rnQ p g h s0 z n) (k + 1)).s = sqQ p g h s0 z k := by
  show (pcS (rnQ p g h s0 z n) k).s = _
  rw [← ssQ_at p g h s0 z hk]
  rfl
theorem sets_no {p : Vec} {g h : Rng} {s0 : Stg} {z : Nat → Nat → Int} {n : Nat} (hp : okPuller p = true) (h0 : Good p s0 0) (hn : n ≤ 40) (hz : ∀ k, k < n → ∀ j, j < 3 → 0 ≤ z k j ∧ z k j ≤ 65535) : setBrs p (rnQ p g h s0 z n) = none := by
  unfold setBrs
  rw [List.findSome?_eq_none_iff]
  intro k hk
  have hk : k < n + 1 := by simpa [ssQ_len] using hk
  have hg := good_all (g := g) (h := h) hp h0 k (by omega) fun i hi => hz i (by omega)
  have e1 : at0 (rnQ p g h s0 z n).ss k = sqQ p g h s0 z k := ssQ_at p g h s0 z (by omega)
  have hb : (bfS (rnQ p g h s0 z n) k).s.ph = 1 := by
    cases k with
    | zero => rfl
    | succ k => rw [bfQ p g h s0 z n k (by omega)]; exact (good_all (g := g) (h := h) hp h0 k (by omega) fun i hi => hz i (by omega)).ph
  have er : rlAt (sqQ p g h s0 z k).ph = 0 := by rw [hg.ph]; rfl
  unfold setBr
  rw [if_neg, six_no]
  · by_cases hk0 : k = 0
    · rw [if_pos hk0]
    · rw [if_neg hk0, six_no]
      · rfl
      · intro j hj
        obtain ⟨m, rfl⟩ : ∃ m, k = m + 1 := ⟨k - 1, by omega⟩
        unfold farB
        rw [bfQ p g h s0 z n m (by omega), e1, er]
        have hgm := good_all (g := g) (h := h) hp h0 m (by omega) fun i hi => hz i (by omega)
        have h1 := nx_between (g := g) (h := h) (st_ok hp hgm (by omega) (hz m (by omega))).1 hj
        have e2 : (sqQ p g h s0 z (m + 1)).t = atQ (sqQ p g h s0 z m) (z m) := rfl
        have e3 : sqQ p g h s0 z (m + 1) = nxSt p g h (sqQ p g h s0 z m) (atQ (sqQ p g h s0 z m) (z m)) (xQ (z m)) := rfl
        rw [e2, e3, Nat.zero_add]
        obtain ⟨far, hf⟩ : ∃ far, far = p (12 + j) * (atQ (sqQ p g h s0 z m) (z m) - (sqQ p g h s0 z m).t) := ⟨_, rfl⟩
        rw [← hf] at h1 ⊢
        simp only [Bool.or_eq_false_iff, decide_eq_false_iff_not]
        omega
  · intro j hj
    unfold bndB
    rw [e1, er, Nat.zero_add]
    have := hg.bd j hj
    simp only [Bool.or_eq_false_iff, decide_eq_false_iff_not]
    omega
  · unfold stepB
    rw [e1, hg.ph, hb]
    simp
theorem setBr_rule {p : Vec} {R : Run} {k : Nat} {b : Brk} (h : setBr p R k = some b) : b.rule = 1 ∨ b.rule = 2 ∨ b.rule = 3 := by
  unfold setBr at h
  split at h
  · injection h with h; subst h; exact .inl rfl
  · split at h
    · injection h with h; subst h; exact .inr (.inl rfl)
    · split at h
      · cases h
      · rw [Option.map_eq_some_iff] at h
        obtain ⟨g, _, rfl⟩ := h
        exact .inr (.inr rfl)
theorem phBr_rule {p : Vec} {a z : Pce} {l : Bool} {b : Brk} (h : phBr p a z l = some b) : b.rule = 4 ∨ b.rule = 5 := by
  unfold phBr at h
  split at h
  · injection h with h; subst h; exact .inl rfl
  · split at h
    · injection h with h; subst h; exact .inr rfl
    · cases h
theorem phBrs_rule {p : Vec} {R : Run} {b : Brk} : ∀ f i, phBrs p R f i = some b → b.rule = 4 ∨ b.rule = 5
  | 0, _, h => by cases h
  | f + 1, i, h => by
    unfold phBrs at h
    split at h
    · cases h
    · split at h
      · rename_i q hq
        injection h with h; subst h
        exact phBr_rule hq
      · exact phBrs_rule f _ h
theorem stopBr_rule {p : Vec} {R : Run} {b : Brk} (h : stopBr p R = some b) : b.rule = 6 := by
  unfold stopBr at h
  split at h
  · cases h
  · split at h
    · injection h with h; subst h; rfl
    · cases h
/-- What the whole run breaks is neither a bound nor a ramp nor the order of the phases. -/
theorem fin_ok {p : Vec} {g h : Rng} {s0 : Stg} {z : Nat → Nat → Int} {n : Nat} (hp : okPuller p = true) (h0 : Good p s0 0) (hn : n ≤ 40) (hz : ∀ k, k < n → ∀ j, j < 3 → 0 ≤ z k j ∧ z k j ≤ 65535) : (obB p (rnQ p g h s0 z n)).rule ≠ 1 ∧ (obB p (rnQ p g h s0 z n)).rule ≠ 2 ∧ (obB p (rnQ p g h s0 z n)).rule ≠ 3 := by
  unfold obB
  rw [hp, run_ok hp h0 hn hz, sets_no hp h0 hn hz]
  simp only [Bool.and_self, if_true]
  split
  · rename_i b hb
    have := phBrs_rule _ _ hb
    show b.rule ≠ 1 ∧ b.rule ≠ 2 ∧ b.rule ≠ 3
    omega
  · cases hs : stopBr p (rnQ p g h s0 z n) with
    | none => simp [brOf]
    | some b => have := stopBr_rule hs; simp only [brOf]; omega
/-- A first run that breaks nothing keeps the bounds. -/
theorem good_of {p : Vec} {s0 : Stg} (hp : okPuller p = true) (hr : okRun ⟨[s0], 100000, [], []⟩ = true) (hph : s0.ph = 1) (ht : s0.t = 0) (h : (obB p ⟨[s0], 100000, [], []⟩).rule = 0) : Good p s0 0 := by
  have hset : okSet s0 = true := by
    unfold okRun at hr
    simp only [Bool.and_eq_true] at hr
    have := hr.1.1.2
    rw [List.all_eq_true] at this
    have := this 0 (by simp)
    unfold setAt at this
    simp only [Bool.and_eq_true] at this
    exact this.1.1.1
  refine ⟨hset, hph, by omega, fun k hk => ?_⟩
  unfold obB at h
  rw [hp, hr] at h
  simp only [Bool.and_self, if_true] at h
  cases hs : setBrs p ⟨[s0], 100000, [], []⟩ with
  | some b =>
    rw [hs] at h
    unfold setBrs at hs
    obtain ⟨j, _, hj⟩ := List.exists_of_findSome?_eq_some hs
    have := setBr_rule hj
    simp only [brOf] at h
    omega
  | none =>
    unfold setBrs at hs
    rw [List.findSome?_eq_none_iff] at hs
    have h1 := hs 0 (by simp)
    unfold setBr at h1
    split at h1
    · cases h1
    · split at h1
      · cases h1
      · rename_i h6
        have := (List.find?_eq_none.1 h6) k (by simpa using hk)
        unfold bndB at this
        have er : rlAt (at0 [s0] 0).ph = 0 := by show rlAt s0.ph = 0; rw [hph]; rfl
        simp only [er, Nat.zero_add, Bool.not_eq_true, Bool.or_eq_false_iff, decide_eq_false_iff_not] at this
        have e0 : at0 [s0] 0 = s0 := rfl
        rw [e0] at this
        omega
end Go.Proofs.Ytbojgcaehlapiaa.Un
