/- Plain law of the window: the sweep over sorted bad ranges leaves the runs of what is not bad; such runs are told apart by what is in them. -/
import Derived.Test.YtnkaoplgmglijaaDoorDc
namespace Go.Proofs.YtnkaoplgmglijaaDoor.Un
open Go.RowKit
def inR (r : Rng) (v : Int) : Prop := r.lo ≤ v ∧ v ≤ r.hi
def inL (l : List Rng) (v : Int) : Prop := ∃ r, r ∈ l ∧ inR r v
def Runs : Int → List Rng → Prop
 | _, [] => True
 | a, r :: l => a ≤ r.lo ∧ r.lo ≤ r.hi ∧ Runs (r.hi + 2) l
theorem Runs.mono {a b : Int} (hab : b ≤ a) : ∀ {l : List Rng}, Runs a l → Runs b l
 | [], _ => trivial
 | _ :: _, h => ⟨Int.le_trans hab h.1, h.2⟩
theorem Runs.lo {a : Int} : ∀ {l : List Rng}, Runs a l → ∀ r, r ∈ l → a ≤ r.lo ∧ r.lo ≤ r.hi
 | [], _, _, hr => by cases hr
 | x :: l, h, r, hr => by
   rcases List.mem_cons.1 hr with rfl | hr
   · exact ⟨h.1, h.2.1⟩
   · have h1 := h.2.2.lo r hr
     have := h.1
     have := h.2.1
     omega
theorem Runs.ge {a v : Int} {l : List Rng} (h : Runs a l) (hv : inL l v) : a ≤ v := by
 obtain ⟨r, hr, h1, _⟩ := hv
 have := (h.lo r hr).1
 omega
theorem inL_cons {r : Rng} {l : List Rng} {v : Int} : inL (r :: l) v ↔ inR r v ∨ inL l v := by
 constructor
 · rintro ⟨x, hx, h⟩
   rcases List.mem_cons.1 hx with rfl | hx
   · exact .inl h
   · exact .inr ⟨x, hx, h⟩
 · rintro (h | ⟨x, hx, h⟩)
   · exact ⟨r, List.mem_cons_self, h⟩
   · exact ⟨x, List.mem_cons_of_mem _ hx, h⟩
theorem Runs.eq : ∀ {a b : Int} {l l' : List Rng}, Runs a l → Runs b l' → (∀ v, inL l v ↔ inL l' v) → l = l'
 | _, _, [], [], _, _, _ => rfl
 | _, _, [], r :: l', _, h', he => by
   obtain ⟨x, hx, _⟩ := (he r.lo).2 (inL_cons.2 (.inl ⟨Int.le_refl _, h'.2.1⟩))
   cases hx
 | _, _, r :: l, [], h, _, he => by
   obtain ⟨x, hx, _⟩ := (he r.lo).1 (inL_cons.2 (.inl ⟨Int.le_refl _, h.2.1⟩))
   cases hx
 | _, _, r :: l, s :: l', h, h', he => by
   obtain ⟨_, h1, h2⟩ := h
   obtain ⟨_, k1, k2⟩ := h'
   have e1 : s.lo ≤ r.lo := by
    rcases inL_cons.1 ((he r.lo).1 (inL_cons.2 (.inl ⟨Int.le_refl _, h1⟩))) with q | q
    · exact q.1
    · have := k2.ge q
      omega
   have e2 : r.lo ≤ s.lo := by
    rcases inL_cons.1 ((he s.lo).2 (inL_cons.2 (.inl ⟨Int.le_refl _, k1⟩))) with q | q
    · exact q.1
    · have := h2.ge q
      omega
   have e3 : ¬ r.hi < s.hi := fun q => by
    rcases inL_cons.1 ((he (r.hi + 1)).2 (inL_cons.2 (.inl ⟨by omega, by omega⟩))) with p | p
    · have := p.2
      omega
    · have := h2.ge p
      omega
   have e4 : ¬ s.hi < r.hi := fun q => by
    rcases inL_cons.1 ((he (s.hi + 1)).1 (inL_cons.2 (.inl ⟨by omega, by omega⟩))) with p | p
    · have := p.2
      omega
    · have := k2.ge p
      omega
   obtain ⟨rl, rh⟩ := r
   obtain ⟨sl, sh⟩ := s
   simp only at e1 e2 e3 e4 h1 k1 h2 k2
   obtain rfl : rl = sl := by omega
   obtain rfl : rh = sh := by omega
   rw [h2.eq k2 (fun v => ?_)]
   constructor
   · intro q
     have h5 := h2.ge q
     rcases inL_cons.1 ((he v).1 (inL_cons.2 (.inr q))) with p | p
     · have := p.2
       simp only at this
       omega
     · exact p
   · intro q
     have h5 := k2.ge q
     rcases inL_cons.1 ((he v).2 (inL_cons.2 (.inr q))) with p | p
     · have := p.2
       simp only at this
       omega
     · exact p
theorem Runs.snoc {x y : Int} : ∀ {a : Int} {l : List Rng}, Runs a l → a ≤ x → (∀ r, r ∈ l → r.hi + 2 ≤ x) → x ≤ y → Runs a (l ++ [⟨x, y⟩])
 | _, [], _, ha, _, hxy => ⟨ha, hxy, trivial⟩
 | _, r :: _, h, _, hl, hxy => ⟨h.1, h.2.1, h.2.2.snoc (hl r List.mem_cons_self) (fun s hs => hl s (List.mem_cons_of_mem _ hs)) hxy⟩
theorem inL_app {l l' : List Rng} {v : Int} : inL (l ++ l') v ↔ inL l v ∨ inL l' v := by
 constructor
 · rintro ⟨x, hx, h⟩
   rcases List.mem_append.1 hx with hx | hx
   · exact .inl ⟨x, hx, h⟩
   · exact .inr ⟨x, hx, h⟩
 · rintro (⟨x, hx, h⟩ | ⟨x, hx, h⟩)
   · exact ⟨x, List.mem_append_left _ hx, h⟩
   · exact ⟨x, List.mem_append_right _ hx, h⟩
theorem inL_one {r : Rng} {v : Int} : inL [r] v ↔ inR r v := by
 rw [inL_cons]
 constructor
 · rintro (h | ⟨x, hx, _⟩)
   · exact h
   · cases hx
 · exact .inl
def swS (s : Int × List Rng) (r : Rng) : Int × List Rng := (max s.1 (r.hi + 1), if s.1 < min r.lo 1000001 then s.2 ++ [⟨s.1, min r.lo 1000001 - 1⟩] else s.2)
structure SwIn (p : List Rng) (s : Int × List Rng) : Prop where
 n0 : 0 ≤ s.1
 n1 : s.1 ≤ 1000002
 runs : Runs 0 s.2
 hi : ∀ r, r ∈ s.2 → r.hi + 2 ≤ s.1 ∧ r.hi ≤ 1000000
 same : ∀ v, 0 ≤ v → v < s.1 → (inL s.2 v ↔ ¬ inL p v)
 top : ∀ b, b ∈ p → b.hi < s.1
 got : s.1 = 0 ∨ ∃ b, b ∈ p ∧ b.hi + 1 = s.1
 len : s.2.length ≤ p.length
theorem swIn_nil : SwIn [] (0, []) := ⟨by decide, by decide, trivial, fun _ h => (by cases h), fun v h1 h2 => absurd h2 (by simp only; omega), fun _ h => (by cases h), .inl rfl, Nat.le_refl _⟩
theorem SwIn.step {p : List Rng} {s : Int × List Rng} (h : SwIn p s) {r : Rng} (h1 : 0 ≤ r.lo) (h2 : r.lo ≤ 1000001) (h3 : r.lo ≤ r.hi) (h4 : r.hi ≤ 1000001) (hs : ∀ b, b ∈ p → b.lo ≤ r.lo) : SwIn (p ++ [r]) (swS s r) := by
 obtain ⟨N, out⟩ := s
 obtain ⟨n0, n1, runs, hi, same, top, got, len⟩ := h
 simp only at n0 n1 runs hi same top got len
 have hm : min r.lo 1000001 = r.lo := Int.min_eq_left h2
 unfold swS
 simp only [hm]
 refine ⟨?_, ?_, ?_, ?_, ?_, ?_, ?_, ?_⟩
 · simp only; omega
 · simp only; omega
 · by_cases hc : N < r.lo
   · simp only [if_pos hc]
     exact runs.snoc n0 (fun s hs => (hi s hs).1) (by omega)
   · simp only [if_neg hc]
     exact runs
 · intro q hq
   by_cases hc : N < r.lo
   · simp only [if_pos hc] at hq
     rcases List.mem_append.1 hq with hq | hq
     · have := hi q hq
       simp only
       omega
     · obtain rfl := List.mem_singleton.1 hq
       simp only
       omega
   · simp only [if_neg hc] at hq
     have := hi q hq
     simp only
     omega
 · intro v hv hv2
   simp only at hv2
   rw [inL_app, inL_one]
   by_cases hN : v < N
   · have hsame := same v hv hN
     have e1 : inL (if N < r.lo then out ++ [⟨N, r.lo - 1⟩] else out) v ↔ inL out v := by
        split
        · rw [inL_app, inL_one]
          constructor
          · rintro (q | q)
            · exact q
            · have := q.1
              simp only at this
              omega
          · exact .inl
        · exact Iff.rfl
     rw [e1, hsame]
     constructor
     · intro q
       rintro (q2 | q2)
       · exact q q2
       · rcases got with e | ⟨b, hb, e⟩
         · omega
         · refine q ⟨b, hb, ?_, ?_⟩
           · have := hs b hb
             have := q2.1
             omega
           · omega
     · intro q q2
       exact q (.inl q2)
   · have hno : ¬ inL p v := fun ⟨b, hb, hbv⟩ => by
        have := top b hb
        have := hbv.2
        omega
     have hno2 : ¬ inL out v := fun ⟨b, hb, hbv⟩ => by
        have := (hi b hb).1
        have := hbv.2
        omega
     by_cases hc : N < r.lo
     · simp only [if_pos hc]
       rw [inL_app, inL_one]
       constructor
       · rintro (q | q)
         · exact absurd q hno2
         · have := q.2
           simp only at this
           rintro (q2 | q2)
           · exact hno q2
           · have := q2.1
             omega
       · intro q
         refine .inr ⟨by simp only; omega, ?_⟩
         simp only
         have : ¬ inR r v := fun z => q (.inr z)
         unfold inR at this
         omega
     · simp only [if_neg hc]
       constructor
       · intro q
         exact absurd q hno2
       · intro q
         exact absurd (Or.inr ⟨by omega, by omega⟩) q
 · intro b hb
   rcases List.mem_append.1 hb with hb | hb
   · have := top b hb
     simp only
     omega
   · obtain rfl := List.mem_singleton.1 hb
     simp only
     omega
 · right
   by_cases hc : N ≤ r.hi + 1
   · exact ⟨r, List.mem_append_right _ (List.mem_singleton.2 rfl), by simp only; omega⟩
   · rcases got with e | ⟨b, hb, e⟩
     · omega
     · exact ⟨b, List.mem_append_left _ hb, by simp only; omega⟩
 · simp only [List.length_append, List.length_singleton]
   split
   · rw [List.length_append]; simp; omega
   · omega
def swK (l : List Rng) : Nat → Int × List Rng
 | 0 => (0, [])
 | k + 1 => swS (swK l k) (at0 l k)
theorem take_at0 {l : List Rng} {k : Nat} (hk : k < l.length) : l.take (k + 1) = l.take k ++ [at0 l k] := by
 rw [List.take_add_one, List.getElem?_eq_getElem hk, at0_get hk]; rfl
def BadOk (r : Rng) : Prop := 0 ≤ r.lo ∧ r.lo ≤ 1000001 ∧ r.lo ≤ r.hi ∧ r.hi ≤ 1000001
theorem swK_in {l : List Rng} (hl : ∀ r, r ∈ l → BadOk r) (hs : l.Pairwise fun x y => x.lo ≤ y.lo) : ∀ k, k ≤ l.length → SwIn (l.take k) (swK l k)
 | 0, _ => by rw [List.take_zero]; exact swIn_nil
 | k + 1, hk => by
   have hk' : k < l.length := hk
   rw [take_at0 hk']
   have hm : at0 l k ∈ l := by rw [at0_get hk']; exact List.getElem_mem hk'
   obtain ⟨h1, h2, h3, h4⟩ := hl _ hm
   refine (swK_in hl hs k (by omega)).step h1 h2 h3 h4 fun b hb => ?_
   obtain ⟨i, hi, rfl⟩ := List.getElem_of_mem hb
   rw [List.getElem_take]
   rw [at0_get hk']
   exact List.pairwise_iff_getElem.1 hs i k _ _ (by rw [List.length_take] at hi; omega)
structure WinOf (bad : Int → Prop) (l : List Rng) : Prop where
 runs : Runs 0 l
 hi : ∀ r, r ∈ l → r.hi ≤ 1000000
 same : ∀ v, 0 ≤ v → v ≤ 1000000 → (inL l v ↔ ¬ bad v)
theorem WinOf.eq {p q : Int → Prop} {l l' : List Rng} (h : WinOf p l) (h' : WinOf q l') (he : ∀ v, 0 ≤ v → v ≤ 1000000 → (p v ↔ q v)) : l = l' := by
 refine h.runs.eq h'.runs fun v => ?_
 by_cases hv : 0 ≤ v ∧ v ≤ 1000000
 · rw [h.same v hv.1 hv.2, h'.same v hv.1 hv.2, he v hv.1 hv.2]
 · constructor
   · intro q
     have h1 := h.runs.ge q
     obtain ⟨r, hr, hq⟩ := q
     have := h.hi r hr
     have := hq.2
     omega
   · intro q
     have h1 := h'.runs.ge q
     obtain ⟨r, hr, hq⟩ := q
     have := h'.hi r hr
     have := hq.2
     omega
theorem sweep_all {bad l : List Rng} (hp : l.Perm bad) (hb : ∀ r, r ∈ bad → 0 ≤ r.lo ∧ r.lo ≤ r.hi ∧ r.hi ≤ 1000000) (hs : l.Pairwise fun x y => x.lo ≤ y.lo) :
 (∀ k, k < (l ++ [(⟨1000001, 1000001⟩ : Rng)]).length → BadOk (at0 (l ++ [(⟨1000001, 1000001⟩ : Rng)]) k)) ∧ ∀ k, k ≤ (l ++ [(⟨1000001, 1000001⟩ : Rng)]).length → SwIn ((l ++ [(⟨1000001, 1000001⟩ : Rng)]).take k) (swK (l ++ [⟨1000001, 1000001⟩]) k) := by
 have hl : ∀ r, r ∈ l ++ [(⟨1000001, 1000001⟩ : Rng)] → BadOk r := fun r hr => by
  rcases List.mem_append.1 hr with hr | hr
  · have := hb r (hp.mem_iff.1 hr)
    exact ⟨this.1, by omega, this.2.1, by omega⟩
  · obtain rfl := List.mem_singleton.1 hr
    exact ⟨by decide, by decide, by decide, by decide⟩
 have hss : (l ++ [(⟨1000001, 1000001⟩ : Rng)]).Pairwise fun x y => x.lo ≤ y.lo := by
  rw [List.pairwise_append]
  refine ⟨hs, List.pairwise_singleton _ _, fun a ha b hb' => ?_⟩
  obtain rfl := List.mem_singleton.1 hb'
  have := hb a (hp.mem_iff.1 ha)
  simp only
  omega
 exact ⟨fun k hk => hl _ (by rw [at0_get hk]; exact List.getElem_mem hk), swK_in hl hss⟩
theorem win_sweep {bad l : List Rng} (hp : l.Perm bad) (hb : ∀ r, r ∈ bad → 0 ≤ r.lo ∧ r.lo ≤ r.hi ∧ r.hi ≤ 1000000) (hs : l.Pairwise fun x y => x.lo ≤ y.lo) :
 WinOf (inL bad) (swK (l ++ [⟨1000001, 1000001⟩]) (l.length + 1)).2 := by
 have hl : ∀ r, r ∈ l ++ [(⟨1000001, 1000001⟩ : Rng)] → BadOk r := fun r hr => by
  rcases List.mem_append.1 hr with hr | hr
  · have := hb r (hp.mem_iff.1 hr)
    exact ⟨this.1, by omega, this.2.1, by omega⟩
  · obtain rfl := List.mem_singleton.1 hr
    exact ⟨by decide, by decide, by decide, by decide⟩
 have hss : (l ++ [(⟨1000001, 1000001⟩ : Rng)]).Pairwise fun x y => x.lo ≤ y.lo := by
  rw [List.pairwise_append]
  refine ⟨hs, List.pairwise_singleton _ _, fun a ha b hb' => ?_⟩
  obtain rfl := List.mem_singleton.1 hb'
  have := hb a (hp.mem_iff.1 ha)
  simp only
  omega
 have h := swK_in hl hss (l.length + 1) (by simp)
 rw [List.take_of_length_le (by simp)] at h
 obtain ⟨n0, n1, runs, hi, same, top, got, len⟩ := h
 have hN : 1000001 < (swK (l ++ [⟨1000001, 1000001⟩]) (l.length + 1)).1 := top ⟨1000001, 1000001⟩ (List.mem_append_right _ (List.mem_singleton.2 rfl))
 refine ⟨runs, fun r hr => (hi r hr).2, fun v h0 h1 => ?_⟩
 rw [same v h0 (by omega), inL_app, inL_one]
 constructor
 · intro q ⟨b, hb', hv⟩
   exact q (.inl ⟨b, hp.mem_iff.2 hb', hv⟩)
 · rintro q (⟨b, hb', hv⟩ | q2)
   · exact q ⟨b, hp.mem_iff.1 hb', hv⟩
   · have := q2.1
     simp only at this
     omega
def bwR (m : Mdl) (z : Rng) (k : Nat) : Rng := ⟨if 0 ≤ abv m k then (abv m k * z.lo).tdiv m.sc + 1 else 0, min ((upt m k * z.hi).tdiv m.sc) 1000000⟩
def bwB (m : Mdl) (v : Int) (z : Rng) (k : Nat) : Bool := unw v k && (decide (abv m k < upt m k) && decide ((bwR m z k).lo ≤ (bwR m z k).hi))
def badK (m : Mdl) (v : Int) (z : Rng) : Nat → List Rng
 | 0 => []
 | k + 1 => if bwB m v z k then badK m v z k ++ [bwR m z k] else badK m v z k
def badL (m : Mdl) (v : Int) (zs : List Rng) : Nat → List Rng
 | 0 => []
 | i + 1 => badL m v zs i ++ badK m v (at0 zs i) 5
theorem badK_len (m : Mdl) (v : Int) (z : Rng) : ∀ k, (badK m v z k).length ≤ k
 | 0 => Nat.le_refl _
 | k + 1 => by
   have := badK_len m v z k
   unfold badK
   split
   · rw [List.length_append]; simp; omega
   · omega
theorem badL_len (m : Mdl) (v : Int) (zs : List Rng) : ∀ i, (badL m v zs i).length ≤ 5 * i
 | 0 => Nat.le_refl _
 | i + 1 => by
   have := badL_len m v zs i
   have := badK_len m v (at0 zs i) 5
   unfold badL
   rw [List.length_append]
   omega
theorem badK_mem {m : Mdl} {v : Int} {z : Rng} {r : Rng} : ∀ {k : Nat}, r ∈ badK m v z k ↔ ∃ j, j < k ∧ bwB m v z j = true ∧ r = bwR m z j
 | 0 => by simp [badK]
 | k + 1 => by
   have ih := badK_mem (m := m) (v := v) (z := z) (r := r) (k := k)
   unfold badK
   split
   · rename_i h
     rw [List.mem_append, ih, List.mem_singleton]
     constructor
     · rintro (⟨j, hj, q⟩ | q)
       · exact ⟨j, by omega, q⟩
       · exact ⟨k, by omega, h, q⟩
     · rintro ⟨j, hj, q1, q2⟩
       by_cases hjk : j = k
       · subst hjk; exact .inr q2
       · exact .inl ⟨j, by omega, q1, q2⟩
   · rename_i h
     rw [ih]
     constructor
     · rintro ⟨j, hj, q⟩
       exact ⟨j, by omega, q⟩
     · rintro ⟨j, hj, q1, q2⟩
       by_cases hjk : j = k
       · subst hjk; exact absurd q1 h
       · exact ⟨j, by omega, q1, q2⟩
theorem badL_mem {m : Mdl} {v : Int} {zs : List Rng} {r : Rng} : ∀ {i : Nat}, r ∈ badL m v zs i ↔ ∃ j, j < i ∧ r ∈ badK m v (at0 zs j) 5
 | 0 => by simp [badL]
 | i + 1 => by
   have ih := badL_mem (m := m) (v := v) (zs := zs) (r := r) (i := i)
   unfold badL
   rw [List.mem_append, ih]
   constructor
   · rintro (⟨j, hj, q⟩ | q)
     · exact ⟨j, by omega, q⟩
     · exact ⟨i, by omega, q⟩
   · rintro ⟨j, hj, q⟩
     by_cases hjk : j = i
     · subst hjk; exact .inr q
     · exact .inl ⟨j, by omega, q⟩
theorem bwR_pos {m : Mdl} (hm : okMdl m = true) {z : Rng} (hz : spanB z 1 1000000 = true) {k : Nat} (hk : k < 5) {v : Int} (hv : 0 ≤ v ∧ v ≤ 1000000) : (decide (abv m k < upt m k) = true ∧ inR (bwR m z k) v) ↔ posB m ⟨v, v⟩ z k = true := by
 obtain ⟨hs1, hs2, _⟩ := okMdl_iff.1 hm
 obtain ⟨a1, a2, a3, a4⟩ := abv_bd hm hk
 obtain ⟨z1, z2, z3⟩ := spanB_iff.1 hz
 have hu : 0 ≤ upt m k * z.hi := Int.mul_nonneg a3 (by omega)
 unfold posB inR bwR
 simp only [Bool.and_eq_true, decide_eq_true_eq]
 rw [Int.tdiv_eq_ediv_of_nonneg hu]
 have e2 : v ≤ min (upt m k * z.hi / m.sc) 1000000 ↔ v * m.sc ≤ upt m k * z.hi := by
  rw [← Int.le_ediv_iff_mul_le (by omega : 0 < m.sc)]
  omega
 rw [e2]
 have e1 : ((if 0 ≤ abv m k then (abv m k * z.lo).tdiv m.sc + 1 else 0) ≤ v) ↔ abv m k * z.lo < v * m.sc := by
  by_cases h0 : 0 ≤ abv m k
  · rw [if_pos h0, Int.tdiv_eq_ediv_of_nonneg (Int.mul_nonneg h0 (by omega))]
    rw [← Int.ediv_lt_iff_lt_mul (by omega : 0 < m.sc)]
    omega
  · rw [if_neg h0]
    have : abv m k = -1 := by omega
    rw [this]
    have := Int.mul_nonneg hv.1 (show 0 ≤ m.sc by omega)
    omega
 rw [e1]
def badAt (m : Mdl) (v : Int) (zs : List Rng) (rate : Int) : Prop := ∃ i, i < zs.length ∧ ∃ k, k < 5 ∧ whyB m v rate (at0 zs i) k = true
theorem inL_bad {m : Mdl} (hm : okMdl m = true) {v : Int} {zs : List Rng} (hz : ∀ i, i < zs.length → spanB (at0 zs i) 1 1000000 = true) {x : Int} (hx : 0 ≤ x ∧ x ≤ 1000000) : inL (badL m v zs zs.length) x ↔ badAt m v zs x := by
 constructor
 · rintro ⟨r, hr, hi⟩
   obtain ⟨j, hj, hr⟩ := badL_mem.1 hr
   obtain ⟨k, hk, hb, rfl⟩ := badK_mem.1 hr
   unfold bwB at hb
   simp only [Bool.and_eq_true] at hb
   refine ⟨j, hj, k, hk, ?_⟩
   unfold whyB
   rw [hb.1, (bwR_pos hm (hz j hj) hk hx).1 ⟨hb.2.1, hi⟩]
   rfl
 · rintro ⟨i, hi, k, hk, h⟩
   unfold whyB at h
   rw [Bool.and_eq_true] at h
   obtain ⟨h1, h2⟩ := (bwR_pos hm (hz i hi) hk hx).2 h.2
   refine ⟨bwR m (at0 zs i) k, badL_mem.2 ⟨i, hi, badK_mem.2 ⟨k, hk, ?_, rfl⟩⟩, h2⟩
   unfold bwB
   simp only [Bool.and_eq_true]
   refine ⟨h.1, h1, decide_eq_true ?_⟩
   unfold inR at h2
   omega
theorem bad_ok {m : Mdl} (hm : okMdl m = true) {v : Int} {zs : List Rng} (hz : ∀ i, i < zs.length → spanB (at0 zs i) 1 1000000 = true) : ∀ r, r ∈ badL m v zs zs.length → 0 ≤ r.lo ∧ r.lo ≤ r.hi ∧ r.hi ≤ 1000000 := by
 intro r hr
 obtain ⟨j, hj, hr⟩ := badL_mem.1 hr
 obtain ⟨k, hk, hb, rfl⟩ := badK_mem.1 hr
 unfold bwB at hb
 simp only [Bool.and_eq_true, decide_eq_true_eq] at hb
 obtain ⟨z1, z2, z3⟩ := spanB_iff.1 (hz j hj)
 obtain ⟨hs1, hs2, _⟩ := okMdl_iff.1 hm
 refine ⟨?_, hb.2.2, ?_⟩
 · unfold bwR
   simp only
   split
   · rename_i h0
     rw [Int.tdiv_eq_ediv_of_nonneg (Int.mul_nonneg h0 (by omega))]
     have := Int.ediv_nonneg (Int.mul_nonneg h0 (show 0 ≤ (at0 zs j).lo by omega)) (show 0 ≤ m.sc by omega)
     omega
   · omega
 · unfold bwR
   simp only
   omega
theorem win_bad {m : Mdl} (hm : okMdl m = true) {v : Int} {zs : List Rng} (hz : ∀ i, i < zs.length → spanB (at0 zs i) 1 1000000 = true) {l : List Rng} (hp : l.Perm (badL m v zs zs.length)) (hs : l.Pairwise fun x y => x.lo ≤ y.lo) : WinOf (badAt m v zs) (swK (l ++ [⟨1000001, 1000001⟩]) (l.length + 1)).2 := by
 have h := win_sweep hp (bad_ok hm hz) hs
 exact ⟨h.runs, h.hi, fun x h0 h1 => by rw [h.same x h0 h1, inL_bad hm hz ⟨h0, h1⟩]⟩
theorem whyL_none {m : Mdl} {v rate : Int} {zs : List Rng} : whyL m v rate zs = none ↔ ¬ badAt m v zs rate := by
 unfold whyL badAt whyZ
 rw [List.findSome?_eq_none_iff]
 constructor
 · rintro h ⟨i, hi, k, hk, hb⟩
   have := h i (List.mem_range.2 hi)
   rw [Option.map_eq_none_iff, List.find?_eq_none] at this
   exact this k (List.mem_range.2 hk) hb
 · intro h i hi
   rw [Option.map_eq_none_iff, List.find?_eq_none]
   intro k hk hb
   exact h ⟨i, List.mem_range.1 hi, k, List.mem_range.1 hk, hb⟩
end Go.Proofs.YtnkaoplgmglijaaDoor.Un
