/- A range over an iterator that yields a known row of things, where the body is told at which place it stands. -/
import Derived.Test.YtnkaoplgmglijaaDoorMh
import Derived.ArgAppend
import Derived.Maps.OwnIn
namespace Go.Proofs.YtnkaoplgmglijaaDoor
open Go.RowKit
def dgL (n : Nat) : List Int := if _h : n = 0 then [] else dgL (n / 10) ++ [((n % 10 : Nat) : Int)]
termination_by n
decreasing_by omega
theorem dgL_zero : dgL 0 = [] := by rw [dgL]; rfl
theorem dgL_pos {n : Nat} (h : 0 < n) : dgL n = dgL (n / 10) ++ [((n % 10 : Nat) : Int)] := by rw [dgL, dif_neg (by omega)]
theorem dgL_len : ∀ (k n : Nat), n < 10 ^ k → (dgL n).length ≤ k
 | 0, n, h => by
   obtain rfl : n = 0 := by simpa using h
   rw [dgL_zero]; exact Nat.le_refl _
 | k + 1, n, h => by
   rcases Nat.eq_zero_or_pos n with rfl | hn
   · rw [dgL_zero]; simp
   · rw [dgL_pos hn, List.length_append]
     have := dgL_len k (n / 10) (by rw [Nat.pow_succ] at h; omega)
     simp only [List.length_cons, List.length_nil]
     omega
theorem ints_flat (l : List Int) : (l.map fun x => I x) = flat 1 (rI l) l.length := by
 apply List.ext_getElem
 · simp [flat]
 · intro k h1 h2
   simp only [List.length_map] at h1
   have h3 : l[k]? = some l[k] := List.getElem?_eq_getElem h1
   simp [flat, rI, at0, h3, Nat.div_one]
def AtL (l : List Int) (v : Value) (w : World) : Prop := ∃ b o c, v = .slice (some ⟨b, o, none⟩) l.length c ∧ b < w.heap.size ∧ ∀ j u, (l.map fun x => I x)[j]? = some u → w.cell? ⟨b, o + j, none⟩ = some u
theorem AtL.of_own {w : World} {base : Nat} {e : TypeId} {v : Value} {l : List Int} (hl : 0 < l.length) (h : w.ownsRow base e 1 v l.length (l.map fun x => I x)) : AtL l v w := by
 rw [ints_flat] at h
 obtain ⟨A, c, rfl, hr⟩ := Rd.of_own h
 obtain ⟨b, o, rfl, hb, hc⟩ := hr hl
 refine ⟨b, o, c, rfl, hb, fun j u hj => ?_⟩
 rw [ints_flat] at hj
 have hjl : j < l.length := by
  have := (List.getElem?_eq_some_iff.1 hj).1
  rw [flat_len] at this
  omega
 have h2 := flat_get (rI l) hjl (show 0 < 1 by omega)
 rw [Nat.mul_one, Nat.add_zero] at h2
 rw [h2] at hj
 have := hc j hjl 0 (by omega)
 rw [Nat.mul_one, Nat.add_zero] at this
 rw [this]; exact hj
theorem int_info : (Tryd.prog.info? 3).map (fun i => (i.zero, i.size, i.bytes)) = some (some (I 0), 1, 8) := by kernel_rfl
end Go.Proofs.YtnkaoplgmglijaaDoor
namespace Go.Proofs.YtnkaoplgmglijaaDoor
open Go.RowKit
def vL (l : List Int) : Int := l.foldl (fun s d => s * 10 + d) 0
theorem vL_snoc (l : List Int) (d : Int) : vL (l ++ [d]) = vL l * 10 + d := by simp [vL]
theorem vL_dgL (n : Nat) : vL (dgL n) = n := by
 induction n using Nat.strongRecOn with
 | _ n ih =>
   rcases Nat.eq_zero_or_pos n with rfl | hn
   · rw [dgL_zero]; rfl
   · rw [dgL_pos hn, vL_snoc, ih (n / 10) (by omega)]; omega
theorem dgL_bd (n : Nat) : ∀ d ∈ dgL n, 0 ≤ d ∧ d ≤ 9 := by
 induction n using Nat.strongRecOn with
 | _ n ih =>
   rcases Nat.eq_zero_or_pos n with rfl | hn
   · rw [dgL_zero]; intro d hd; cases hd
   · rw [dgL_pos hn]
     intro d hd
     rcases List.mem_append.1 hd with h | h
     · exact ih (n / 10) (by omega) d h
     · simp at h; omega
theorem vL_take {l : List Int} {k : Nat} (hk : k < l.length) : vL (l.take (k + 1)) = vL (l.take k) * 10 + at0 l k := by
 have h3 : l[k]? = some l[k] := List.getElem?_eq_getElem hk
 rw [List.take_add_one, h3, Option.toList_some, vL_snoc]
 simp [at0, h3]
theorem vL_mono {l : List Int} (h : ∀ d ∈ l, 0 ≤ d ∧ d ≤ 9) : ∀ k, 0 ≤ vL (l.take k) ∧ vL (l.take k) ≤ vL (l.take (k + 1))
 | 0 => by
   rcases Nat.eq_zero_or_pos l.length with h0 | h0
   · obtain rfl := List.length_eq_zero_iff.1 h0; simp [vL]
   · rw [vL_take h0]
     have := h _ (List.getElem_mem h0)
     have e : at0 l 0 = l[0] := by simp [at0, List.getElem?_eq_getElem h0]
     simp [vL] ; omega
 | k + 1 => by
   have ih := vL_mono h k
   refine ⟨by omega, ?_⟩
   rcases Nat.lt_or_ge (k + 1) l.length with h0 | h0
   · rw [vL_take h0]
     have := h _ (List.getElem_mem h0)
     have e : at0 l (k + 1) = l[k + 1] := by simp [at0, List.getElem?_eq_getElem h0]
     omega
   · rw [List.take_of_length_le h0, List.take_of_length_le (by omega)]; exact Int.le_refl _
theorem long_step {a v d c : Int} (hc : 0 < c) : a * (v * 10 + d) / c = a * v / c * 10 + (a * v % c * 10 + a * d) / c ∧ a * (v * 10 + d) % c = (a * v % c * 10 + a * d) % c := by
 have e : a * (v * 10 + d) = (a * v % c * 10 + a * d) + c * (a * v / c * 10) := by
  have h := Int.emod_add_mul_ediv (a * v) c
  have h2 : a * (v * 10 + d) = a * v * 10 + a * d := by rw [Int.mul_add, Int.mul_assoc]
  rw [h2]
  have h3 : c * (a * v / c * 10) = c * (a * v / c) * 10 := by rw [Int.mul_assoc]
  rw [h3]
  omega
 rw [e, Int.add_mul_ediv_left _ _ (by omega), Int.add_mul_emod_self_left]
 exact ⟨by omega, rfl⟩
end Go.Proofs.YtnkaoplgmglijaaDoor
namespace Go.Proofs.YtnkaoplgmglijaaDoor
open Go.RowKit
def upF (a b c : Int) : Int := if a * b % c = 0 then a * b / c else a * b / c + 1
def afF (kd d n : Int) : Int := if kd = 2 ∨ kd = 3 then d + n else d - n
end Go.Proofs.YtnkaoplgmglijaaDoor
namespace Go.Proofs.YtnkaoplgmglijaaDoor
open Go.RowKit
end Go.Proofs.YtnkaoplgmglijaaDoor
namespace Go.Proofs.YtnkaoplgmglijaaDoor
open Go.RowKit
def crF (x : Stp) (s : Nat) (d mass : Int) : Int × Int :=
 if x.kd = 1 ∧ x.ms = mass then (d, d) else if x.kd = 1 then (min d (d * (x.b (s * 2) * x.ms) / (10000 * mass)), min d (upF d (x.b (s * 2 + 1) * x.ms) (10000 * mass)))
 else if x.kd = 4 then (d * x.b (s * 2) / 10000, upF d (x.b (s * 2 + 1)) 10000) else (x.b (s * 2), x.b (s * 2 + 1))
theorem q_bd {d p c : Int} (hd : 0 ≤ d ∧ d ≤ 300000000000000) (hp : 0 ≤ p ∧ p ≤ 2 * c) (hc : 0 < c) : d * p / c ≤ 1000000000000000000 := by
 have h1 : d * p ≤ 300000000000000 * (2 * c) := Int.mul_le_mul hd.2 hp.2 hp.1 (by omega)
 have h2 : d * p / c ≤ 600000000000000 := by
  refine Int.ediv_le_of_le_mul hc ?_
  omega
 omega
theorem share_bd {q ms mass : Int} (hq : 0 ≤ q ∧ q ≤ 20000) (hm : 0 ≤ ms ∧ ms ≤ mass) (hmm : mass ≤ 1000000000) : 0 ≤ q * ms ∧ q * ms ≤ 2 * (10000 * mass) ∧ q * ms ≤ 20000000000000 := by
 have h0 := Int.mul_nonneg hq.1 hm.1
 have h1 : q * ms ≤ 20000 * mass := Int.mul_le_mul hq.2 hm.2 hm.1 (by omega)
 omega
end Go.Proofs.YtnkaoplgmglijaaDoor
namespace Go.Proofs.YtnkaoplgmglijaaDoor
open Go.RowKit
theorem md_val {a b c how : Int} (hw : 1 ≤ how ∧ how ≤ 3) (ha : numB a = true) (hb : numB b = true) (hc : 1 ≤ c ∧ c ≤ 1000000000000000) (hn : numB (rnd (a * b) c how).1 = true) : (mdF a b c how).1 = (rnd (a * b) c how).1 := by
 unfold mdF
 rw [if_neg (by omega), if_neg (by
  rintro (h | h | h)
  · rw [ha, hb] at h; exact absurd h (by decide)
  · omega
  · omega), if_pos hn]
theorem rnd_one (v c : Int) : (rnd v c 1).1 = v / c := by
 rw [rnd_no (fun h => by rcases h.2 with h | h <;> omega)]
theorem rnd_two {v c : Int} (hc : 0 < c) : (rnd v c 2).1 = if v % c = 0 then v / c else v / c + 1 := by
 have h0 := Int.emod_nonneg v (show c ≠ 0 by omega)
 by_cases h : v % c = 0
 · rw [rnd_no (fun h' => by omega), if_pos h]
 · rw [rnd_up ⟨by omega, .inl rfl⟩, if_neg h]
theorem q_bd2 {d p c : Int} (hd : 0 ≤ d ∧ d ≤ 300000000000000) (hp : 0 ≤ p ∧ p ≤ 2 * c) (hc : 0 < c) : 0 ≤ d * p / c ∧ d * p / c ≤ 600000000000000 := by
 have h1 : d * p ≤ 300000000000000 * (2 * c) := Int.mul_le_mul hd.2 hp.2 hp.1 (by omega)
 exact ⟨Int.ediv_nonneg (Int.mul_nonneg hd.1 hp.1) (by omega), Int.ediv_le_of_le_mul hc (by omega)⟩
theorem pt_one {share u m mass : Int} (hu : 0 ≤ u ∧ u ≤ 300000000000000) (hp : 0 ≤ share * m ∧ share * m ≤ 2 * (10000 * mass) ∧ share * m ≤ 20000000000000) (hm : 1 ≤ mass ∧ mass ≤ 1000000000) : ptF share u m mass 1 = min u (u * (share * m) / (10000 * mass)) := by
 have hb := q_bd2 hu ⟨hp.1, hp.2.1⟩ (show 0 < 10000 * mass by omega)
 have e := md_val (a := u) (b := share * m) (c := 10000 * mass) (how := 1) (by omega) (numB_iff.2 (by omega)) (numB_iff.2 (by omega)) (by omega) (numB_iff.2 (by rw [rnd_one]; omega))
 unfold ptF
 rw [e, rnd_one]
 omega
theorem pt_two {share u m mass : Int} (hu : 0 ≤ u ∧ u ≤ 300000000000000) (hp : 0 ≤ share * m ∧ share * m ≤ 2 * (10000 * mass) ∧ share * m ≤ 20000000000000) (hm : 1 ≤ mass ∧ mass ≤ 1000000000) : ptF share u m mass 2 = min u (upF u (share * m) (10000 * mass)) := by
 have hb := q_bd2 hu ⟨hp.1, hp.2.1⟩ (show 0 < 10000 * mass by omega)
 have hr : (rnd (u * (share * m)) (10000 * mass) 2).1 = upF u (share * m) (10000 * mass) := by rw [rnd_two (by omega)]; rfl
 have hn : numB (rnd (u * (share * m)) (10000 * mass) 2).1 = true := numB_iff.2 (by rw [hr]; unfold upF; split <;> omega)
 have e := md_val (a := u) (b := share * m) (c := 10000 * mass) (how := 2) (by omega) (numB_iff.2 (by omega)) (numB_iff.2 (by omega)) (by omega) hn
 unfold ptF
 rw [e, hr]
 omega
theorem up_le {u p c : Int} (hu : 0 ≤ u) (hp : 0 ≤ p ∧ p ≤ c) (hc : 0 < c) : u * p / c ≤ u ∧ upF u p c ≤ u := by
 have h1 : u * p ≤ u * c := Int.mul_le_mul_of_nonneg_left hp.2 hu
 have h2 : u * p / c ≤ u := Int.ediv_le_of_le_mul hc h1
 refine ⟨h2, ?_⟩
 unfold upF
 split
 · exact h2
 · rename_i h
   have h3 := Int.emod_add_mul_ediv (u * p) c
   have h4 := Int.emod_nonneg (u * p) (show c ≠ 0 by omega)
   rcases Int.lt_or_le (u * p / c) u with hlt | hge
   · omega
   · have e : u * p / c = u := by omega
     rw [e, Int.mul_comm c u] at h3
     omega
theorem cr_ch {x : Stp} {s : Nat} {d mass : Int} (hx : isS x = true) (hs : s < 3) (hd : 0 ≤ d ∧ d ≤ 300000000000000) (hm : 0 ≤ mass ∧ mass ≤ 1000000000) (hxm : x.kd = 1 → x.ms ≤ mass) : crF x s d mass = chF x s d mass := by
 have hby := isS_by hx hs
 have hms := isS_ms hx
 unfold crF chF
 by_cases h1 : x.kd = 1
 · have hm1 := hms (.inl h1)
   have hmm := hxm h1
   have h20 := hby.2.2.1 (.inl h1)
   by_cases h2 : x.ms = mass
   · rw [if_pos ⟨h1, h2⟩, if_pos ⟨h1, h2⟩]
   · rw [if_neg (fun h => h2 h.2), if_pos h1, if_neg (fun h => h2 h.2), if_pos h1]
     rw [pt_one hd (share_bd ⟨hby.1, by omega⟩ ⟨by omega, hmm⟩ hm.2) (by omega), pt_two hd (share_bd ⟨by omega, h20⟩ ⟨by omega, hmm⟩ hm.2) (by omega)]
 · simp only [h1, false_and, if_false]
   by_cases h4 : x.kd = 4
   · simp only [h4, if_true]
     have hb4 : x.b (s * 2 + 1) ≤ 10000 := by
        unfold isS at hx
        rw [if_neg (by omega), if_neg (by omega), if_neg (by omega), if_pos h4, Bool.and_eq_true] at hx
        exact (bdB_at hx.2 hs).2.2
     have e1 := pt_one (share := x.b (s * 2)) (u := d) (m := 1) (mass := 1) hd (by omega) (by omega)
     have e2 := pt_two (share := x.b (s * 2 + 1)) (u := d) (m := 1) (mass := 1) hd (by omega) (by omega)
     rw [Int.mul_one] at e1 e2
     have l1 := up_le (u := d) (p := x.b (s * 2)) (c := 10000) hd.1 ⟨hby.1, by omega⟩ (by omega)
     have l2 := up_le (u := d) (p := x.b (s * 2 + 1)) (c := 10000) hd.1 ⟨by omega, hb4⟩ (by omega)
     rw [e1, e2]
     have c1 : (10000 * 1 : Int) = 10000 := rfl
     rw [c1, Int.min_eq_right l1.1, Int.min_eq_right l2.2]
   · simp only [h4, if_false]
end Go.Proofs.YtnkaoplgmglijaaDoor
namespace Go.Proofs.YtnkaoplgmglijaaDoor
open Go.RowKit
theorem ovr_next {W u w' : World} (h : Below (ovr W u).heap.size (ovr W u) w') : ∃ u', w' = ovr W u' := ⟨w', ovr_of ((ovr_below W u).trans (h.mono (ovr_below W u).size))⟩
theorem ovr_self (W : World) : ∃ u, W = ovr W u := ⟨W, ovr_of (Below.refl _ _)⟩
theorem ovr_re1 {W W' u v : World} {o : Obj} (h : W' = (ovr W u).alloc o) : ∃ x, ovr W' v = ovr W x := by
 subst h
 exact ⟨_, ovr_of ((ovr_below W u).trans ((under2 (ovr_below _ v)).mono (ovr_below W u).size))⟩
theorem ovr_re2 {W W' u v : World} {o p : Obj} (h : W' = ((ovr W u).alloc o).alloc p) : ∃ x, ovr W' v = ovr W x := by
 subst h
 exact ⟨_, ovr_of ((ovr_below W u).trans ((under2 (under2 (ovr_below _ v))).mono (ovr_below W u).size))⟩
theorem ovr_reB {W V : World} (h : Below W.heap.size W V) (v : World) : ∃ x, ovr V v = ovr W x := ⟨_, ovr_of (h.trans ((ovr_below V v).mono h.size))⟩
theorem ovr_row {W : World} {b : Nat} {o : Obj} (h : W.heap[b]? = some o) (u : World) : (ovr W u).heap[b]? = some o := ((ovr_below W u).block _ (Array.getElem?_eq_some_iff.1 h).1).trans h
theorem tr_cell {W X : World} (h : ∀ v, ∃ x, ovr X v = ovr W x) {p : Addr} {v : Option Value} (H : ∀ u, (ovr W u).cell? p = v) : ∀ u, (ovr X u).cell? p = v := fun u => by obtain ⟨x, hx⟩ := h u; rw [hx]; exact H x
theorem tr_froz {W X : World} (h : ∀ v, ∃ x, ovr X v = ovr W x) {p : Addr} {v : Bool} (H : ∀ u, (ovr W u).frozen? p = v) : ∀ u, (ovr X u).frozen? p = v := fun u => by obtain ⟨x, hx⟩ := h u; rw [hx]; exact H x
theorem tr_row {W X : World} (h : ∀ v, ∃ x, ovr X v = ovr W x) {b : Nat} {v : Option Obj} (H : ∀ u, (ovr W u).heap[b]? = v) : ∀ u, (ovr X u).heap[b]? = v := fun u => by obtain ⟨x, hx⟩ := h u; rw [hx]; exact H x
theorem one1 {a : Value} (h : a.oneCell' = true) : ∀ v ∈ (#[a] : Array Value).toList, v.oneCell' = true := by intro v hv; simp at hv; rcases hv with rfl; exact h
theorem one2 {a b : Value} (h : a.oneCell' = true) (h2 : b.oneCell' = true) : ∀ v ∈ (#[a, b] : Array Value).toList, v.oneCell' = true := by intro v hv; simp at hv; rcases hv with rfl | rfl <;> assumption
theorem Rd.flat_at {w : World} {sz n : Nat} {b o : Nat} {g : Nat → Nat → Value} (hc : ∀ k, k < n → ∀ j, j < sz → w.cell? ⟨b, o + k * sz + j, none⟩ = some (g k j)) (hsz : 0 < sz) :
 ∀ j u, (flat sz g n)[j]? = some u → w.cell? ((⟨b, o, none⟩ : Addr).add j) = some u := by
 intro j u hu
 have hj : j < n * sz := by have := (List.getElem?_eq_some_iff.1 hu).1; rwa [flat_len] at this
 have e : j = j / sz * sz + j % sz := by rw [Nat.mul_comm]; exact (Nat.div_add_mod j sz).symm
 have hk : j / sz < n := Nat.div_lt_of_lt_mul (by rw [Nat.mul_comm]; exact hj)
 have hm : j % sz < sz := Nat.mod_lt _ hsz
 have h1 := flat_get g hk hm
 rw [← e, hu] at h1
 have h2 : w.cell? ⟨b, o + j / sz * sz + j % sz, none⟩ = some (g (j / sz) (j % sz)) := hc _ hk _ hm
 rw [addr_add, show o + j = o + j / sz * sz + j % sz by omega, h2]
 exact h1.symm
theorem Rd.of_own_max {w : World} {base sz n : Nat} {e : TypeId} {v : Value} {g : Nat → Nat → Value} (h : w.ownsRow base e sz v n (flat sz g n)) : ∃ A c, v = .slice A n c ∧ n ≤ c ∧ c ≤ maxLen ∧ Rd w w.heap.size sz A n g := by
 obtain ⟨A, c, hv, hc, hr⟩ := Rd.of_own_cap h
 refine ⟨A, c, hv, hc, ?_, hr⟩
 rcases h.2 with ⟨rfl, rfl⟩ | ⟨q, cap, cur, rfl, hq, hh, hn, hm, hsz, ht⟩
 · injection hv with _ _ h3; subst h3; unfold maxLen; omega
 · injection hv with _ _ h3; subst h3; exact hm
theorem own_base {w : World} {base base' sz n : Nat} {e : TypeId} {v : Value} {xs : List Value} (h : w.ownsRow base e sz v n xs) (hb : base' ≤ base) : w.ownsRow base' e sz v n xs := by
 obtain ⟨h1, h2⟩ := h
 refine ⟨h1, ?_⟩
 rcases h2 with h2 | ⟨g, cap, cur, hv, hg, r⟩
 · exact .inl h2
 · exact .inr ⟨g, cap, cur, hv, by omega, r⟩
theorem run_app_lit {P : Program} (w : World) (t ty e : TypeId) (i : TypeInfo) (z : Value) (sz bytes : Nat) (ht : P.underlying t = some (.slice e)) (hi : P.info? e = some i) (hz : i.zero = some z) (hsz : i.size = sz) (hby : i.bytes = bytes) (hzs : z.cells.size = sz) (h0 : 0 < sz)
 (b : Nat) (A : Option Addr) (n c : Nat) (g : Nat → Nat → Value) (hr : Rd w w.heap.size sz A n g) (hn : n ≤ 1000000) (hb : bytes ≤ 1000000) :
 ∃ A' c' w', (Builtin.append_ #[t, t] ty #[.slice (some ⟨b, 0, none⟩) 0 0, .slice A n c]).run P w = .ok (.slice A' n c') w' ∧ Below w.heap.size w w' ∧ n ≤ c' ∧ c' ≤ maxLen ∧ Rd w' w'.heap.size sz A' n g := by
 by_cases hn0 : n = 0
 · subst hn0
   refine ⟨some ⟨b, 0, none⟩, 0, w, ?_, Below.refl _ _, Nat.le_refl _, by unfold maxLen; omega, Rd.nil⟩
   cases A <;> simp [go_sem, Builtin.append_, run_underlying ht, sizeOf, typeInfo, hi, Builtin.lenOf, Builtin.firstCells, storeCells]
 · obtain ⟨b2, o2, hA, _, hc⟩ := hr (by omega)
   subst hA
   have hm : n * bytes ≤ 1000000 * 1000000 := Nat.mul_le_mul hn hb
   obtain ⟨v', w', hrun, hown, hgr⟩ := run_append_arg_grows (P := P) w t ty e i z sz bytes ht hi hz hsz hby hzs h0 ⟨b, 0, none⟩ 0 0 [] (by simp) (fun j u hu => by simp at hu) ⟨b2, o2, none⟩ n c (flat sz g n) (flat_len _ _ _) (Rd.flat_at hc h0) (by omega) (by unfold maxLen; omega) (by rw [Nat.zero_add]; omega)
   rw [Nat.zero_add, List.nil_append] at hown
   obtain ⟨A', c', hv, hnc, hcm, hrd⟩ := Rd.of_own_max hown
   subst hv
   exact ⟨A', c', w', hrun, (Below.refl _ _).grown hgr (Nat.le_refl _) (fun g hg => by cases hg), hnc, hcm, hrd⟩
theorem wpList_app_lit {P : Program} {ops : Array Oper} {rest : List Oper} {o : Oper} {a : Act} {w : World} {Q : Exit → Act → World → Prop} (hg : o.guard = none) (s x : Operand) (t : TypeId) (ho : o.op = .call { callee := .builtin .append, args := #[s, x], argTypes := #[t, t] })
 (e : TypeId) (i : TypeInfo) (z : Value) (sz bytes : Nat) (ht : P.underlying t = some (.slice e)) (hi : P.info? e = some i) (hz : i.zero = some z) (hsz : i.size = sz) (hby : i.bytes = bytes) (hzs : z.cells.size = sz) (h0 : 0 < sz)
 (b : Nat) (hs : a.eval s = .slice (some ⟨b, 0, none⟩) 0 0) (A : Option Addr) (n c : Nat) (hx : a.eval x = .slice A n c) (g : Nat → Nat → Value) (hr : Rd w w.heap.size sz A n g) (hn : n ≤ 1000000) (hb : bytes ≤ 1000000)
 (hK : ∀ A' c' w', n ≤ c' → c' ≤ maxLen → Rd w' w'.heap.size sz A' n g → Below w.heap.size w w' → wpList P ops Q rest (a.put o.dst (.slice A' n c')) w') : wpList P ops Q (o :: rest) a w := by
 refine wpList_plain hg fun K hK' => ?_
 obtain ⟨A', c', w', hrun, h1, h2, h3, h4⟩ := run_app_lit (P := P) w t o.type e i z sz bytes ht hi hz hsz hby hzs h0 b A n c g hr hn hb
 unfold Oper.wp
 simp [execOp, ho, resolve, invoke, builtin, hs, hx, hrun, Result.andThen]
 exact hK' _ _ (hK A' c' w' h2 h3 h4 h1)
theorem below_chain {X Y Z : World} (h : ∀ u, Below X.heap.size X (ovr Y u)) (h2 : ∀ u, Below Y.heap.size Y (ovr Z u)) : ∀ u, Below X.heap.size X (ovr Z u) := fun u => by
 obtain ⟨v, hv⟩ := ovr_self Y
 have := h v
 rw [← hv] at this
 exact this.trans ((h2 u).mono this.size)
theorem below_self {X Y : World} (h : ∀ u, Below X.heap.size X (ovr Y u)) : Below X.heap.size X Y := by
 obtain ⟨v, hv⟩ := ovr_self Y
 have := h v
 rwa [← hv] at this
def RetLc (w : World) (sz n : Nat) (g : Nat → Nat → Value) (e : Ending) (w' : World) : Prop := ∃ A c, e = .returned (.slice A n c) ∧ n ≤ c ∧ c ≤ maxLen ∧ Rd w' w'.heap.size sz A n g ∧ Below w.heap.size w w'
def SoC (e : TypeId) (sz B n : Nat) (olds : List Value) (v : Value) (w : World) : Prop := (n = 0 ∧ olds = [] ∧ ∃ b, v = .slice (some ⟨b, 0, none⟩) 0 0) ∨ w.ownsRow B e sz v n olds
theorem SoC.over {e : TypeId} {sz B n : Nat} {l : List Value} {v : Value} {w w' : World} (h : SoC e sz B n l v w) (hb : Below w.heap.size w w') : SoC e sz B n l v w' := h.imp id fun ho => own_below ho hb
theorem SoC.rd {e : TypeId} {sz B n : Nat} {g : Nat → Nat → Value} {v : Value} {w : World} (h : SoC e sz B n (flat sz g n) v w) : ∃ A c, v = .slice A n c ∧ n ≤ c ∧ c ≤ maxLen ∧ Rd w w.heap.size sz A n g := by
 rcases h with ⟨rfl, _, b, rfl⟩ | ho
 · exact ⟨_, _, rfl, Nat.le_refl _, by unfold maxLen; omega, Rd.nil⟩
 · exact Rd.of_own_max ho
theorem run_app_soc {P : Program} (w : World) (t ty : TypeId)
 (e : TypeId) (i : TypeInfo) (z : Value) (sz bytes : Nat) (h1 : P.underlying t = some (.slice e)) (h2 : P.info? e = some i) (h3 : i.zero = some z) (h4 : i.size = sz) (h5 : i.bytes = bytes) (h6 : z.cells.size = sz) (h7 : 0 < sz)
 {B n : Nat} {olds : List Value} {v : Value} (hso : SoC e sz B n olds v w) (ad : Addr) (c : Nat) (news : List Value) (hnl : news.length = sz)
 (hc : ∀ j u, news[j]? = some u → w.cell? (ad.add j) = some u) (h1c : ∀ u ∈ news, u.oneCell' = true) (hB : B ≤ w.heap.size) (hl : n ≤ 1000000) (hb : bytes ≤ 1000) :
 ∃ v' w', (Builtin.append_ #[t, t] ty #[v, .slice (some ad) 1 c]).run P w = .ok v' w' ∧ SoC e sz B (n + 1) (olds ++ news) v' w' ∧ Below B w w' := by
 have hm : (n + 1) * bytes ≤ 1000001 * 1000 := Nat.mul_le_mul (by omega) hb
 rcases hso with ⟨rfl, rfl, b, rfl⟩ | ho
 · obtain ⟨v', w', hrun, hown, hgr⟩ := run_append_arg_grows (P := P) w t ty e i z sz bytes h1 h2 h3 h4 h5 h6 h7 ⟨b, 0, none⟩ 0 0 [] (by simp) (fun j u hu => by simp at hu) ad 1 c news (by rw [hnl, Nat.one_mul]) hc (by omega) (by unfold maxLen; omega) (by simp only [Nat.zero_add] at hm ⊢; omega)
   refine ⟨v', w', hrun, .inr ?_, (Below.refl _ _).grown hgr hB (fun k hk => by cases hk)⟩
   have := own_base hown hB
   simpa using this
 · obtain ⟨v', w', hrun, hown, hgr, _⟩ := run_append_own (P := P) w B t ty e i z sz bytes h1 h2 h3 h4 h5 h6 h7 v n olds ho ad 1 c news (by rw [hnl, Nat.one_mul]) hc h1c (by unfold maxLen; omega) (by omega) hB
   exact ⟨v', w', hrun, .inr hown, (Below.refl _ _).grown hgr hB (fun k hk => (ho.lt k hk).1)⟩
theorem wp_app_soc {P : Program} {o : Oper} {a : Act} {w : World} {K : Act → World → Prop} {Q : Exit → Act → World → Prop} (s x : Operand) (t : TypeId) (ho : o.op = .call { callee := .builtin .append, args := #[s, x], argTypes := #[t, t] })
 (e : TypeId) (i : TypeInfo) (z : Value) (sz bytes : Nat) (h1 : P.underlying t = some (.slice e)) (h2 : P.info? e = some i) (h3 : i.zero = some z) (h4 : i.size = sz) (h5 : i.bytes = bytes) (h6 : z.cells.size = sz) (h7 : 0 < sz)
 (B n : Nat) (olds : List Value) (v : Value) (hs : a.eval s = v) (hso : SoC e sz B n olds v w) (ad : Addr) (c : Nat) (news : List Value) (hx : a.eval x = .slice (some ad) 1 c) (hnl : news.length = sz)
 (hc : ∀ j u, news[j]? = some u → w.cell? (ad.add j) = some u) (h1c : ∀ u ∈ news, u.oneCell' = true) (hB : B ≤ w.heap.size) (hl : n ≤ 1000000) (hb : bytes ≤ 1000)
 (h : ∀ v' w', SoC e sz B (n + 1) (olds ++ news) v' w' → Below B w w' → K (a.put o.dst v') w') : o.wp P a w K Q := by
 obtain ⟨v', w', hr, h8, h9⟩ := run_app_soc (P := P) w t o.type e i z sz bytes h1 h2 h3 h4 h5 h6 h7 hso ad c news hnl hc h1c hB hl hb
 unfold Oper.wp execOp
 simp only [ho, resolve, invoke, builtin, Sem.run_bind, Sem.run_pure, Result.andThen_ok, List.map_toArray, List.map_cons, List.map_nil, hs, hx, hr]
 exact h v' w' h8 h9
theorem wpList_app_soc {P : Program} {ops : Array Oper} {rest : List Oper} {o : Oper} {a : Act} {w : World} {Q : Exit → Act → World → Prop} (hg : o.guard = none) (s x : Operand) (t : TypeId) (ho : o.op = .call { callee := .builtin .append, args := #[s, x], argTypes := #[t, t] })
 (e : TypeId) (i : TypeInfo) (z : Value) (sz bytes : Nat) (h1 : P.underlying t = some (.slice e)) (h2 : P.info? e = some i) (h3 : i.zero = some z) (h4 : i.size = sz) (h5 : i.bytes = bytes) (h6 : z.cells.size = sz) (h7 : 0 < sz)
 (B n : Nat) (olds : List Value) (v : Value) (hs : a.eval s = v) (hso : SoC e sz B n olds v w) (ad : Addr) (c : Nat) (news : List Value) (hx : a.eval x = .slice (some ad) 1 c) (hnl : news.length = sz)
 (hc : ∀ j u, news[j]? = some u → w.cell? (ad.add j) = some u) (h1c : ∀ u ∈ news, u.oneCell' = true) (hB : B ≤ w.heap.size) (hl : n ≤ 1000000) (hb : bytes ≤ 1000)
 (h : ∀ v' w', SoC e sz B (n + 1) (olds ++ news) v' w' → Below B w w' → wpList P ops Q rest (a.put o.dst v') w') : wpList P ops Q (o :: rest) a w :=
 wpList_plain hg fun _ hK => wp_app_soc s x t ho e i z sz bytes h1 h2 h3 h4 h5 h6 h7 B n olds v hs hso ad c news hx hnl hc h1c hB hl hb fun v' w' h8 h9 => hK _ _ (h v' w' h8 h9)
end Go.Proofs.YtnkaoplgmglijaaDoor
namespace Go.Proofs.YtnkaoplgmglijaaDoor
open Go.RowKit
open Go.Maps
def d3 (q : Int × Int × Int) : DataW Unit := .agg [.lit (.int .i64 q.1), .lit (.int .i64 q.2.1), .lit (.int .i64 q.2.2)]
open Classical in
noncomputable def R3 (v : Value) : Option (DataW Unit × List MemPlace) :=
 if h : ∃ q : Int × Int × Int, v = .agg #[I q.1, I q.2.1, I q.2.2] then some (d3 h.choose, []) else none
theorem R3_mk (q : Int × Int × Int) : R3 (.agg #[I q.1, I q.2.1, I q.2.2]) = some (d3 q, []) := by
 have h : ∃ q' : Int × Int × Int, (.agg #[I q.1, I q.2.1, I q.2.2] : Value) = .agg #[I q'.1, I q'.2.1, I q'.2.2] := ⟨q, rfl⟩
 unfold R3
 rw [dif_pos h]
 have hs := h.choose_spec
 generalize h.choose = r at hs
 obtain ⟨a, b, c⟩ := q
 obtain ⟨a', b', c'⟩ := r
 simp at hs
 obtain ⟨rfl, rfl, rfl⟩ := hs
 rfl
theorem R3_inv {v : Value} {q : Int × Int × Int} {ps : List MemPlace} (h : R3 v = some (d3 q, ps)) : v = .agg #[I q.1, I q.2.1, I q.2.2] := by
 unfold R3 at h
 split at h
 · rename_i hq
   obtain ⟨r, rfl⟩ := hq
   have h2 := R3_mk r
   unfold R3 at h2
   rw [dif_pos ⟨r, rfl⟩] at h2
   rw [h2] at h
   obtain ⟨a, b, c⟩ := q
   obtain ⟨a', b', c'⟩ := r
   simp [d3] at h
   obtain ⟨⟨rfl, rfl, rfl⟩, _⟩ := h
   rfl
 · cases h
theorem law_int : Keyed Tryd.prog 3 := int_keyed Tryd.underlying3
theorem zero_lv (w : World) : (zeroValue 42).run Tryd.prog w = .ok (.agg #[I 0, I 0, I 0]) w := by kernel_rfl
theorem key_int {k : Nat} (hk : k ≤ 1000000) : keyOf Tryd.prog 3 (I k) = some (.int .i64 k) := keyOf_int_mk Tryd.underlying3 (by
 have h1 : IntKind.i64.min = -9223372036854775808 := by decide
 have h2 : IntKind.i64.max = 9223372036854775807 := by decide
 simp only [Lit.wf, Bool.and_eq_true, decide_eq_true_eq, h1, h2]
 omega)
def MpAt (w : World) (b n : Nat) (f : Nat → Int × Int × Int) : Prop := ∃ D : DataW Unit, w.ownsMap Tryd.prog 3 R3 b n D ∧ IsMap D ∧ ∀ j, j < n → D.atKey (.int .i64 j) (d3 (0, 0, 0)) = d3 (f j)
theorem MpAt.made (w : World) (f : Nat → Int × Int × Int) : MpAt (w.alloc (.map #[] 0)) w.heap.size 0 f := ⟨.map [], World.ownsMap_made _ _ _ _, isMap_empty, fun j hj => absurd hj (by omega)⟩
theorem MpAt.kept {w w' : World} {b n : Nat} {f : Nat → Int × Int × Int} {row : Option Nat} (h : MpAt w b n f) (hg : w.grownBy w' row) (hne : some b ≠ row) : MpAt w' b n f := by
 obtain ⟨D, h1, h2, h3⟩ := h
 exact ⟨D, h1.kept hg hne, h2, h3⟩
theorem MpAt.row {w w' : World} {b n : Nat} {f : Nat → Int × Int × Int} (h : MpAt w b n f) (hg : w'.heap[b]? = w.heap[b]?) : MpAt w' b n f := by
 obtain ⟨D, ⟨es, clock, hb, F, hs, hD⟩, h2, h3⟩ := h
 exact ⟨D, ⟨es, clock, hg.trans hb, F, hs, hD⟩, h2, h3⟩
theorem MpAt.lt {w : World} {b n : Nat} {f : Nat → Int × Int × Int} (h : MpAt w b n f) : b < w.heap.size := h.choose_spec.1.lt
theorem MpAt.put {w' : World} {b n : Nat} {f : Nat → Int × Int × Int} {D : DataW Unit} (h2 : IsMap D) (h3 : ∀ j, j < n → D.atKey (.int .i64 j) (d3 (0, 0, 0)) = d3 (f j))
 (h : w'.ownsMap Tryd.prog 3 R3 b (n + 1) (D.put (.int .i64 n) (d3 (f n)))) : MpAt w' b (n + 1) f := by
 refine ⟨_, h, h2.put _ _, fun j hj => ?_⟩
 by_cases e : j = n
 · subst e
   exact atKey_put_same h2 (by trivial) _ _
 · rw [atKey_put_other (by simp only [ne_eq, Lit.int.injEq, true_and]; omega)]
   exact h3 j (by omega)
theorem wpListIn_put3 {F : Fence} {nF : Nat} {w : World} {ops : Array Oper} {rest : List Oper} {o : Oper} {a : Act} {Q : Exit → Act → World → Prop}
 (hg : o.guard = none) (m x v : Operand) (hop : o.op = Op.mapUpdate 121 m x v) (b n : Nat) (f : Nat → Int × Int × Int) (hm : a.eval m = .map (some b)) (h : MpAt w b n f) (hn : n ≤ 1000000) (hx : a.eval x = I n) (hv : a.eval v = .agg #[I (f n).1, I (f n).2.1, I (f n).2.2])
 (hK : ∀ w', MpAt w' b (n + 1) f → w.grownBy w' (some b) → wpListIn F nF Tryd.prog ops Q rest (a.put o.dst undef) w') : wpListIn F nF Tryd.prog ops Q (o :: rest) a w := by
 obtain ⟨D, h1, h2, h3⟩ := h
 exact wpListIn_mapUpdate_own w hg m x v _ hop _ _ law_int Tryd.underlying121 R3 b n D hm h1 (by unfold maxLen; omega) _ _ (.int .i64 n) hx hv (key_int hn) _ [] (R3_mk (f n)) fun w' h4 h5 => hK w' (MpAt.put h2 h3 h4) h5
theorem wpListIn_look3 {F : Fence} {nF : Nat} {w : World} {ops : Array Oper} {rest : List Oper} {o : Oper} {a : Act} {Q : Exit → Act → World → Prop}
 (hg : o.guard = none) (m x : Operand) (hop : o.op = Op.lookup 121 m x false) (b n : Nat) (f : Nat → Int × Int × Int) (hm : a.eval m = .map (some b)) (h : MpAt w b n f) (k : Nat) (hk : k < n) (hn : n ≤ 1000000) (hx : a.eval x = I k)
 (hK : wpListIn F nF Tryd.prog ops Q rest (a.put o.dst (.agg #[I (f k).1, I (f k).2.1, I (f k).2.2])) w) : wpListIn F nF Tryd.prog ops Q (o :: rest) a w := by
 obtain ⟨D, h1, h2, h3⟩ := h
 refine wpListIn_plain hg fun K' hK' => ?_
 obtain ⟨v, ps, hrun, hv⟩ := h1.lookup law_int Tryd.underlying121 (zero_lv w) (R3_mk (0, 0, 0)) (key_int (k := k) (by omega))
 rw [h3 k hk] at hv
 rw [R3_inv hv] at hrun
 unfold Oper.wpIn
 refine ⟨by simp [Oper.about, hop], ?_⟩
 rw [Oper.semAt_plain F _ _ (by rw [hop]; intro c hc'; cases hc')]
 simp [execOp, hop, hm, hx, hrun, Result.andThen]
 exact hK' _ _ hK
end Go.Proofs.YtnkaoplgmglijaaDoor
namespace Go.Proofs.YtnkaoplgmglijaaDoor
open Go.RowKit
def SeqAll (F : Fence) (n : Nat) (P : Program) (g : Nat) (lb : Array Value) (encs : Nat → Array Value) (Kp : World → World → Prop) (N : Nat) (w0 : World) : Prop :=
 ∀ (l : Nat) (J : Nat → World → Prop) (W : World), Below w0.heap.size w0 W → AbidesFrom W.heap.size J →
   (∀ k W1, k < N → J k W1 → YieldAt F (n - 1) P l (encs k) W1 fun e W' => e = .returned (.bool true) ∧ J (k + 1) W' ∧ Kp W1 W') →
   J 0 W → CallsIn F n P g (#[.func (.yield l) #[] #[]] ++ lb) W fun e W' => (∃ v, e = .returned v) ∧ J N W'
theorem wpIn_rangeFunc_all {F : Fence} {n : Nat} {P : Program} {w : World} {g : Operand} {ps : Array Tmp} {assign body : Code} {Q : Exit → Act → World → Prop} {a : Act}
 (hro : F.round = none) (h1 : 1 ≤ n) {gf : Nat} {lb : Array Value} (hg : a.eval g = .func (.func gf) #[] lb) (hFg : F.fn gf) (eg : ∀ args w, (callFunc gf args).run P w = .ok (.enter gf args) w)
 {encs : Nat → Array Value} {Kp : World → World → Prop} {N : Nat} {w0 : World} (hseq : SeqAll F (n - 1) P gf lb encs Kp N w0)
 (hKt : ∀ {A B C : World}, Kp A B → Kp B C → Kp A C) (hKb : ∀ (W : World) (l : Nat) (o o' : Obj), w.heap.size ≤ l → W.heap[l]? = some o → o.isCells = false → o.isWalk = false → Kp W (W.putObj l o')) (hb0 : Below w0.heap.size w0 w) (hps : ∀ k, (encs k).size = ps.size)
 (I : Nat → World → Prop) (hI : OwnFrom w.heap.size I) (h0 : I 0 w) (Ax : Nat → Act → World → Prop) (hAx : ∀ k a', OwnFrom w.heap.size (fun (_ : Unit) W => Ax k a' W))
 (hassign : ∀ (l k : Nat) (W : World) (K : Act → World → Prop), k < N → I k W → (∀ a' W', KeepsFrom w.heap.size W W' → Kp W W' → I k W' → Ax k a' W' → K a' W') →
  assign.wpIn (F.inRound l) (n - 1 - 1) P (Exit.then K (fun _ _ _ => False)) { tmps := (ps.zip (encs k)).foldl (fun t (p, v) => t.setIfInBounds p v) a.tmps, defers := [] } W)
 (hbody : ∀ (l k : Nat) (a' : Act) (W : World), w.heap.size ≤ l → k < N → I k W → Ax k a' W → body.wpIn (F.inRound l) (n - 1 - 1) P (ownPostG w.heap.size Kp (fun (_ : List Unit) W' => I (k + 1) W') (fun _ _ _ => False) [] W) a' W)
 (hdone : ∀ (D : Nat) (W : World), w.heap.size ≤ D → I N W → W.heap[D]? = some (.deferred (some [])) → Q .normal { a with defers := { target := .collected D, args := #[] } :: a.defers } W) :
 (Code.rangeFunc g ps assign body).wpIn F n P Q a w := by
 obtain ⟨L, hL⟩ : ∃ L, w.heap.size + 1 = L := ⟨_, rfl⟩
 refine wpIn_rangeFunc fun fn hfn => ?_
 rw [hro]
 obtain ⟨R, hR⟩ : ∃ R : LoopState → Loop, R = fun st => { state := st, pending := none, fn, tmps := a.tmps, params := ps, assign, body, defers := w.heap.size } := ⟨_, rfl⟩
 have hRb : ∀ st st', { R st with state := st' } = R st' := fun st st' => by rw [hR]
 obtain ⟨X, hX⟩ : ∃ X, (w.alloc (.deferred (some []))).alloc (.loop (R .ready)) = X := ⟨_, rfl⟩
 have xL : X.heap[L]? = some (.loop (R .ready)) := by rw [← hX, ← hL]; exact heap_last _ _ _ (by simp)
 have xD : X.heap[w.heap.size]? = some (.deferred (some [])) := by rw [← hX]; exact heap_before (heap_last _ _ _ rfl)
 have xI : I 0 X := by rw [← hX]; exact hI.alloc _ (hI.alloc _ h0)
 have xB : Below w0.heap.size w0 X := by rw [← hX]; exact (hb0.alloc hb0.size _).alloc (Nat.le_trans hb0.size (by simp)) _
 have xS : w.heap.size ≤ X.heap.size := by rw [← hX]; simp; omega
 refine ⟨L, [{ target := .collected w.heap.size, args := #[] }], X, { target := .fn (.func gf) lb, args := #[.func (.yield L) #[] #[]] }, X, gf, #[.func (.yield L) #[] #[]] ++ lb, X, ?_, ?_, ?_, ?_, fun _ => h1, ?_⟩
 · rw [← hX, ← hL, hR]; exact run_enterLoop_outer _ _ _ _ _
 · simp only [resolve, hg]
   simp [go_sem]
 · intro f' hf'; simp [Target.leads] at hf'; subst hf'; exact hFg
 · simp [invoke, go_sem, eg]
 have keepD : ∀ {A B : World} {row : Option Nat} {k : Nat} {o : Obj}, A.grownBy B row → (∀ r, row = some r → ∃ o : Obj, A.heap[r]? = some o ∧ o.isWalk = true) → A.heap[k]? = some o → o.isWalk = false → B.heap[k]? = some o := by
  intro A B row k o hgr hr hk ho
  refine (hgr.block k (Array.getElem?_eq_some_iff.1 hk).1 (fun e => ?_)).trans hk
  obtain ⟨o', h1, h2⟩ := hr k e.symm
  rw [hk] at h1; cases h1; rw [ho] at h2; cases h2
 refine (hseq L (fun k W => I k W ∧ W.heap[L]? = some (.loop (R .ready)) ∧ W.heap[w.heap.size]? = some (.deferred (some []))) X xB ?_ ?_ ⟨xI, xL, xD⟩).mono ?_
 · intro k A B row hs hgr hr
   exact ⟨hI k A B row hs.1 hgr (fun r e => by obtain ⟨h1, o, h2, h3⟩ := hr r e; exact ⟨Nat.le_trans xS h1, o, h2, Obj.not_cells_of_walk h3⟩), keepD hgr (fun r e => (hr r e).2) hs.2.1 rfl, keepD hgr (fun r e => (hr r e).2) hs.2.2 rfl⟩
 · rintro k W hk ⟨hi, hl, hd⟩
   have hy := run_yield (P := P) (args := encs k) hl (by rw [hR]; exact hps k)
   rw [hR] at hy
   refine ⟨fn, _, assign, body, hy, roundIn_of_wpIn hfn (hassign L k W _ hk hi ?_)⟩
   intro a' V hkf hkp hiV hax
   have vL := hkf.same _ _ (by omega) hl rfl
   have vD := hkf.same _ _ (Nat.le_refl _) hd rfl
   refine ⟨_, run_beginRound vL (by rw [hR]), ?_⟩
   rw [hRb]
   have vlt := (Array.getElem?_eq_some_iff.1 vL).1
   have uL : (V.putObj L (.loop (R .busy))).heap[L]? = some (.loop (R .busy)) := World.putObj_heap_same vlt
   have uD : (V.putObj L (.loop (R .busy))).heap[w.heap.size]? = some (.deferred (some [])) := (World.putObj_heap_other (by omega)).trans vD
   refine wpIn_mono (hbody L k a' _ (by omega) hk (hI.putObj _ hiV (by omega) vL rfl) ((hAx k a').putObj (s := ()) _ hax (by omega) vL rfl)) ?_
   intro e a3 Y hp
   cases e with
   | normal =>
     obtain ⟨hk3, hkp3, hi3⟩ := hp
     have yL := hk3.same _ _ (by omega) uL rfl
     have hr := run_endRound (P := P) none yL
     refine ⟨_, _, hr, rfl, ⟨hI.putObj _ hi3 (by omega) yL rfl, ?_, (World.putObj_heap_other (by omega)).trans (hk3.same _ _ (Nat.le_refl _) uD rfl)⟩, hKt hkp (hKt (hKt (hKb _ _ _ _ (by omega) vL rfl rfl) hkp3) (hKb _ _ _ _ (by omega) yL rfl rfl))⟩
     rw [World.putObj_heap_same (Array.getElem?_eq_some_iff.1 yL).1, hR]
     rfl
   | ret => exact hp.2.elim
   | exit id => exact hp.2.elim
   | goto t => exact hp.2.elim
   | panic ch => exact hp.elim
   | outgrown => exact hp.elim
 · rintro e W2 ⟨⟨v, rfl⟩, hi, hl, hd⟩
   have hr := run_endLoop (P := P) hl (by rw [hR]; simp)
   exact ⟨none, _, by rw [hR] at hr; exact hr, hdone _ _ (Nat.le_refl _) (hI.putObj _ hi (by omega) hl rfl) ((World.putObj_heap_other (by omega)).trans hd)⟩
theorem walk_all (m : Mlt) (c : Crs) (s : Nat) (st : Int) (ls : List Stp) (A : Option Addr) (d e B Bs Bl Bf qc qs n₀ N : Nat) (X : Nat → Prop) (w : World) (hN : 2 ≤ N) (hs : s < 3) (hst : 0 ≤ st ∧ st ≤ 1000000000000) (hl : ls.length ≤ 200) (hM : isM m = true) (hE : ∀ j, j < ls.length → stE m ls j = 0)
 (ha : WkAt n₀ X B Bs Bl Bf qc qs) (hn₀ : n₀ ≤ w.heap.size) (hw : WkIn w m c s st ls A d e B Bs Bl Bf qc qs) :
 SeqAll Fence.wide N Tryd.prog 58 #[.pointer (some ⟨Bs, 0, none⟩), .pointer (some ⟨Bl, 0, none⟩), .pointer (some ⟨Bf, 0, none⟩)] (fun k => #[I (k : Int), .agg (lvA m c s st ls k)]) (KpS n₀ X) ls.length w := by
 intro l J W hW hJ hY h0
 have hle : ∀ b o, b < n₀ → W.cell? ⟨b, o, none⟩ = w.cell? ⟨b, o, none⟩ := fun b o hb => hW.cell (p := ⟨b, o, none⟩) (Nat.lt_of_lt_of_le hb hn₀)
 refine (walk1_in m c s st ls A d e B Bs Bl Bf qc qs l n₀ N X hN hs hst hl hM hE ha (fun pre W => J pre.length W) (fun _ _ => False) W (fun pre A B row hs hg hr => hJ pre.length A B row hs hg hr) (Nat.le_trans hn₀ hW.size) ?_ ?_ h0).mono ?_
 · intro k h W1 hj
   have hk : (fwd ls.length k).length = k := fwd_len (Nat.le_of_lt h)
   rw [hk] at hj
   refine (hY k W1 h hj).mono ?_
   rintro e W' ⟨rfl, h2, h3⟩
   exact .inl ⟨rfl, by rw [List.length_append, hk]; exact h2, h3⟩
 · exact ⟨(hle _ _ ha.bl.1).trans hw.l0, (hle _ _ ha.bl.1).trans hw.l7, (hle _ _ ha.bl.1).trans hw.l8, (hle _ _ ha.bs.1).trans hw.s0, (hle _ _ ha.bf.1).trans hw.f0,
    ⟨(hle _ _ ha.bc.1).trans hw.pk.c0, (hle _ _ ha.bc.1).trans hw.pk.c1, (hle _ _ ha.bc.1).trans hw.pk.c2, (hle _ _ ha.bq.1).trans hw.pk.s, hw.pk.r.keep fun b o hb => hle b o (Nat.lt_of_lt_of_le hb ha.bB), Nat.le_trans hw.pk.lt hW.size⟩⟩
 · rintro e W' ⟨hv, (⟨ys, rfl, hj⟩ | ⟨pre, _, hx⟩)⟩
   · rw [fwd_len (Nat.le_refl _)] at hj
     exact ⟨hv, hj⟩
   · exact hx.elim
end Go.Proofs.YtnkaoplgmglijaaDoor
