/- Contracts of Trace of package finish: what is too old. -/
import Derived.Test.YtljjpidigckheaaFae
import Derived.Test.YtljjpidigckheaaDm
namespace Go.Proofs.Ytljjpidigckheaa.Un
open Go.RowKit
theorem alloc_rng9 (w : World) : ∃ w', (Instr.alloc 24 true (.tuple #[])).run Try.prog w = .ok (.pointer (some ⟨w.heap.size, 0, none⟩)) w' := ⟨w.alloc (.cells #[I 0, I 0] 24), by kernel_rfl⟩
def old9 (l : List Gag) (day : Int) (g : Int) : Bool := decide ((at0 l g.toNat).u < day)
structure TrIn (W : World) (l : List Gag) (day : Int) (A : Option Addr) (c B q1 q2 : Nat) : Prop where
 d : W.cell? ⟨q1, 0, none⟩ = some (I day)
 s : W.cell? ⟨q2, 0, none⟩ = some (.slice A l.length c)
 r : Rd W B 6 A l.length (rG l)
 b : B ≤ W.heap.size
 b1 : q1 < W.heap.size
 b2 : q2 < W.heap.size
theorem TrIn.below {W V : World} {l : List Gag} {day : Int} {A : Option Addr} {c B q1 q2 : Nat} (h : TrIn W l day A c B q1 q2) (hb : Below W.heap.size W V) : TrIn V l day A c B q1 q2 :=
 ⟨(hb.cell (p := ⟨q1, 0, none⟩) h.b1).trans h.d, (hb.cell (p := ⟨q2, 0, none⟩) h.b2).trans h.s, h.r.below (hb.mono h.b), Nat.le_trans h.b hb.size, Nat.lt_of_lt_of_le h.b1 hb.size, Nat.lt_of_lt_of_le h.b2 hb.size⟩
set_option maxRecDepth 100000 in
set_option maxHeartbeats 1000000 in
theorem tr1_any (l : List Gag) (day g : Int) (A : Option Addr) (c B q1 q2 : Nat) (w : World) (h : TrIn w l day A c B q1 q2) (hg : 0 ≤ g ∧ g < l.length) :
 Calls Try.prog 52 #[I g, .pointer (some ⟨q1, 0, none⟩), .pointer (some ⟨q2, 0, none⟩)] w fun e w' => e = .returned (.bool (old9 l day g)) ∧ Below w.heap.size w w' := by
 obtain ⟨k, rfl⟩ : ∃ k : Nat, g = k := ⟨g.toNat, by omega⟩
 have hk : k < l.length := by omega
 have hf : Hid (old9 l day k = decide ((at0 l k).u < day)) := rfl
 obtain ⟨b, o, rfl, _, _, _, _, _, _, e5⟩ := rd_gag h.r hk
 have z0 := ovr_cell h.d
 have z1 := ovr_cell h.s
 have z2 := ovr_cell e5
 clear h e5
 go_enter Try.func52, Try.ntmps52
 go_upto_region 1 with (fail)
 refine wp_region_seq 7 (fun _ => none) (by kernel_rfl) (by kernel_rfl) (by kernel_rfl) (by kernel_rfl) ?_
 simp only [List.take_succ_cons, List.take_zero, List.drop_succ_cons, List.drop_zero]
 repeat (first | (refine wpG_one rfl rfl rfl ?_; intro K hK; go_big_quiet_op; go_big_quiet_on) | (refine wpG_skip rfl ?_; simp only [Act.put, List.setIfInBounds_toArray, List.set_cons_zero, List.set_cons_succ]))
 refine wpG_nil (fun w5 hw5 hG => ?_)
 clear hG
 have HB5 := Lib.hid hw5.le
 clear hw5
 refine wpTail_cons ?_
 refine wp_assign _ (.bool (decide ((at0 l k).u < day))) rfl rfl ?_
 refine wpTail_nil ?_
 simp only [Act.put, List.setIfInBounds_toArray, List.set_cons_zero, List.set_cons_succ]
 go_wp2_with fail
 go_ret
 exact ⟨by rw [hf.out]; rfl, HB5.out⟩
set_option maxHeartbeats 1000000 in
theorem ix_old (l : List Gag) (day : Int) (A : Option Addr) (c B q1 q2 : Nat) (P : Option Addr) (m : Nat) (xs : List Int) (w : World) (h : TrIn w l day A c B q1 q2) (hp : ∀ g ∈ xs, 0 ≤ g ∧ g < (l.length : Int)) (hm : xs.length ≤ maxLen) (hx : Rd w w.heap.size 1 P xs.length (rI xs)) :
 Calls Try.prog 89 #[.slice P xs.length m, .func (Fn.func 52) #[] #[.pointer (some ⟨q1, 0, none⟩), .pointer (some ⟨q2, 0, none⟩)]] w fun e w' => e = .returned (.int .i64 (ixOf (old9 l day) xs)) ∧ Below w.heap.size w w' := by
 unfold maxLen at hm
 have HX : Hid (∀ u, Rd (ovr w u) w.heap.size 1 P xs.length (rI xs)) := fun u => hx.below (ovr_below w u)
 have HC : Hid (∀ u (k : Nat), k < xs.length → Calls Try.prog 52 #[I (at0 xs k), .pointer (some ⟨q1, 0, none⟩), .pointer (some ⟨q2, 0, none⟩)] (ovr w u) fun e w' => e = .returned (.bool (old9 l day (at0 xs k))) ∧ Below (ovr w u).heap.size (ovr w u) w') := fun u k hk =>
  tr1_any l day _ A c B q1 q2 _ (h.below (ovr_below w u)) (hp _ (by rw [at0_get hk]; exact List.getElem_mem hk))
 obtain ⟨u0, hu0⟩ := ovr_self w
 have H0 := Lib.hid hu0
 clear hx hu0 h hp
 go_enter Try.func89, Try.ntmps89
 go_wp2
 go_loopw [8] (fun i wr => ∃ k : Nat, k ≤ xs.length ∧ i = .int .i64 k ∧ (∀ j, j < k → old9 l day (at0 xs j) = false) ∧ ∃ u, wr = ovr w u) (fun i _ => xs.length - (intOf i).toNat)
 case atStart => exact ⟨0, by omega, rfl, fun j hj => absurd hj (by omega), u0, H0.out⟩
 case round =>
  obtain ⟨k, hk, rfl, hb, u, rfl⟩ := hrel
  have Hb := Lib.hid hb
  clear hb
  by_cases hlt : k < xs.length
  · obtain ⟨b', o, rfl, _, hcc⟩ := HX.out u (by omega)
    have e0 := hcc k hlt 0 (by omega)
    rw [Nat.mul_one, Nat.add_zero] at e0
    have e1 : (ovr w u).cell? ⟨b', o + k, none⟩ = some (I (at0 xs k)) := e0
    have ca := HC.out u k hlt
    clear hcc e0
    rcases hp : old9 l day (at0 xs k) with _ | _
    · rw [hp] at ca
      have Ca := Lib.hid ca
      clear ca
      go_wp2_with fail
      refine Ca.out.mono ?_
      rintro e w1 ⟨rfl, hb1⟩
      obtain ⟨u1, rfl⟩ := ovr_next hb1
      clear hb1
      go_wp2_with fail
      go_roundw
      case rel => exact ⟨k + 1, by omega, by go_num, succ_case Hb.out hp, u1, rfl⟩
      case measure => simp [intOf]; omega
    · rw [hp] at ca
      have Ca := Lib.hid ca
      have hfin := Lib.hid (ixOf_at hlt hp Hb.out)
      clear ca
      go_wp2_with fail
      refine Ca.out.mono ?_
      rintro e w1 ⟨rfl, hb1⟩
      obtain ⟨u1, rfl⟩ := ovr_next hb1
      clear hb1
      go_wp2_with fail
      go_ret
      exact ⟨ret_int hfin.out.symm, ovr_below _ _⟩
  · have hfin : Hid (ixOf (old9 l day) xs = -1) := ixOf_none0 fun j hj => Hb.out j (by omega)
    go_wp2
    go_ret
    exact ⟨ret_int hfin.out.symm, ovr_below _ _⟩
set_option maxHeartbeats 1000000 in
theorem con_old (l : List Gag) (day : Int) (A : Option Addr) (c B q1 q2 : Nat) (P : Option Addr) (m : Nat) (xs : List Int) (w : World) (h : TrIn w l day A c B q1 q2) (hp : ∀ g ∈ xs, 0 ≤ g ∧ g < (l.length : Int)) (hm : xs.length ≤ maxLen) (hx : Rd w w.heap.size 1 P xs.length (rI xs)) :
 Calls Try.prog 51 #[.slice P xs.length m, .func (Fn.func 52) #[] #[.pointer (some ⟨q1, 0, none⟩), .pointer (some ⟨q2, 0, none⟩)]] w fun e w' => e = .returned (.bool (xs.any (old9 l day))) ∧ Below w.heap.size w w' := by
 have hfin := ixOf_any (p := old9 l day) (xs := xs)
 have cx := Lib.hid (ix_old l day A c B q1 q2 P m xs w h hp hm hx)
 clear hx hm h hp
 go_enter Try.func51, Try.ntmps51
 go_wp2_with fail
 refine cx.out.mono ?_
 rintro e w' ⟨rfl, hb⟩
 have HB := Lib.hid hb
 clear hb
 go_wp2_with fail
 go_ret
 exact ⟨rfl, HB.out⟩
end Go.Proofs.Ytljjpidigckheaa.Un
