/- The sort of any list of one's own, also of none. -/
import Derived.Test.YtnkaoplgmglijaaDoorDc
import Derived.Test.YtnkaoplgmglijaaDoorSf
import Derived.Test.YtnkaoplgmglijaaDoorJo
namespace Go.Proofs.YtnkaoplgmglijaaDoor.Un
open Go.RowKit Go.Shelf Go.Lib Go.Sort
def encR (r : Rng) : List Value := [I r.lo, I r.hi]
def cfR (x y : Rng) : Int := Lib.compareInt x.lo y.lo
theorem ltR (x y : Rng) : ltOf cfR x y = decide (x.lo < y.lo) := by
 unfold ltOf cfR Lib.compareInt
 by_cases h1 : x.lo < y.lo
 · simp [h1]
 · by_cases h2 : y.lo < x.lo <;> simp [h1, h2]
theorem swoR : SWO (ltOf cfR) where
 irrefl x := by rw [ltR]; simp
 trans x y z h1 h2 := by rw [ltR] at *; simp at *; omega
 ntrans x y z h1 h2 := by rw [ltR] at *; simp at *; omega
set_option maxHeartbeats 1000000 in
theorem window1_any (x y : Rng) (W : World) : Calls Tryd.prog 52 #[x.val, y.val] W fun e w' => e = .returned (.int .i64 (Lib.compareInt x.lo y.lo)) ∧ ∃ q os', w' = grow (W.drewN q) os' := by
 have hcon := fun W' => AnyG.cmp_Compare_int cmpInt x.lo y.lo W'
 change ∀ W', Calls Tryd.prog 53 _ _ _ at hcon
 generalize Lib.compareInt x.lo y.lo = r at hcon ⊢
 go_enter Tryd.func52, Tryd.ntmps52
 go_wp2_with (go_at_call 53; refine (hcon _).mono ?_; rintro e w' ⟨rfl, rfl⟩)
 go_ret
 exact ⟨rfl, 0, _, by rw [alloc_eq_grow, alloc_eq_grow, grow_grow]; rfl⟩
theorem lays_R (blk off size : Nat) (w : World) : CmpLays Tryd.prog 52 #[] encR 2 cfR blk off size w := fun _ _ _ _ x y => window1_any x y _
end Go.Proofs.YtnkaoplgmglijaaDoor.Un
namespace Go.Proofs.YtnkaoplgmglijaaDoor.Un
open Go.RowKit Go.Shelf Go.Lib Go.Sort
theorem map_at {w : World} {b : Nat} {f : Array Value → Array Value} {c : Array Value} {e : TypeId} {fr : Nat × Nat} (h : w.heap[b]? = some (.cells c e fr)) : (mapBlock w b f).heap[b]? = some (.cells (f c) e fr) := by
 unfold mapBlock
 simp [Array.getElem?_modify, h, onCells]
theorem map_other {w : World} {b k : Nat} {f : Array Value → Array Value} (h : k ≠ b) : (mapBlock w b f).heap[k]? = w.heap[k]? := by
 unfold mapBlock
 simp [Array.getElem?_modify, Ne.symm h]
theorem encR_len (x : Rng) : (encR x).length = 2 := rfl
theorem flatK_rc (l : List Rng) : (flatK encR 2 l.toArray).toList = rc l := by
 rw [rc_flat]
 apply List.ext_getElem?
 intro i
 by_cases hi : i < l.length * 2
 · have h1 := get_flatK encR 2 l.toArray i (by simpa using hi)
   have hs : i < (flatK encR 2 l.toArray).size := by simpa using hi
   have h2 := flat_get (sz := 2) (rR l) (show i / 2 < l.length by omega) (show i % 2 < 2 by omega)
   rw [show i / 2 * 2 + i % 2 = i by omega] at h2
   rw [h2, Array.getElem?_toList, Array.getElem?_eq_getElem hs, ← getElem!_pos _ i hs, h1]
   have h3 : (l.toArray)[i / 2]! = at0 l (i / 2) := by
    rw [at0_get (by omega), getElem!_pos _ _ (by simp; omega)]
    simp
   rw [h3]
   unfold rR
   rcases Nat.mod_two_eq_zero_or_one i with h | h <;> rw [h] <;> rfl
 · rw [List.getElem?_eq_none (by rw [Array.length_toList]; simp; omega), List.getElem?_eq_none (by rw [flat_len]; omega)]
theorem put_take {cur F : Array Value} (hF : F.size ≤ cur.size) : (putCells id 0 F cur).toList.take F.size = F.toList ∧ (putCells id 0 F cur).size = cur.size := by
 refine ⟨?_, by simp [putCells]⟩
 apply List.ext_getElem?
 intro i
 rw [List.getElem?_take]
 by_cases hi : i < F.size
 · rw [if_pos hi, Array.getElem?_toList, Array.getElem?_toList]
   unfold putCells
   rw [Array.getElem?_mapIdx, Array.getElem?_eq_getElem (by omega), Array.getElem?_eq_getElem hi]
   simp [hi]
 · rw [if_neg hi, List.getElem?_eq_none (by rw [Array.length_toList]; omega)]
theorem sorted_own {w : World} {base : Nat} {e : TypeId} {b c : Nat} {l l' : List Rng} (hlen : l'.length = l.length) (h : w.ownsRow base e 2 (.slice (some ⟨b, 0, none⟩) l.length c) l.length (rc l)) (m : Nat) (os : Array Obj) :
 (sortWorldK encR 2 w b 0 m l'.toArray os).ownsRow base e 2 (.slice (some ⟨b, 0, none⟩) l.length c) l.length (rc l') ∧ Below base w (sortWorldK encR 2 w b 0 m l'.toArray os) := by
 obtain ⟨h1, h2⟩ := h
 rcases h2 with ⟨h2, _⟩ | ⟨b', cap, cur, he, hb, hh, hc, hm, hs, ht⟩
 · cases h2
 · injection he with e1 e2 e3
   injection e1 with e1
   injection e1 with e1
   subst e1 e3
   have hF : (flatK encR 2 l'.toArray).size = l.length * 2 := by simp [hlen]
   have hle : (flatK encR 2 l'.toArray).size ≤ cur.size := by rw [hF, hs]; exact Nat.mul_le_mul_right 2 hc
   obtain ⟨p1, p2⟩ := put_take hle
   have hh' : (Sort.ahead w m).heap[b]? = some (.cells cur e (0, 0)) := hh
   have hp : (putRowK encR 2 (Sort.ahead w m) b 0 l'.toArray).heap[b]? = some (.cells (putCells id 0 (flatK encR 2 l'.toArray) cur) e (0, 0)) := map_at hh'
   have hg : (sortWorldK encR 2 w b 0 m l'.toArray os).heap[b]? = some (.cells (putCells id 0 (flatK encR 2 l'.toArray) cur) e (0, 0)) := by
    unfold sortWorldK grow
    show (_ ++ _ : Array Obj)[b]? = _
    rw [Array.getElem?_append_left (Array.getElem?_eq_some_iff.1 hp).1]
    exact hp
   refine ⟨⟨by rw [rc_flat, flat_len, hlen], .inr ⟨b, c, _, rfl, hb, hg, hc, hm, by rw [p2, hs], ?_⟩⟩, ?_⟩
   · rw [← hF, p1, flatK_rc]
   · refine ⟨rfl, rfl, rfl, ?_, fun k hk => ?_⟩
     · unfold sortWorldK grow putRowK putRow mapBlock
       simp [Sort.ahead]
     · unfold sortWorldK grow
       show (_ ++ _ : Array Obj)[k]? = _
       have hk2 : k < w.heap.size := by have := (Array.getElem?_eq_some_iff.1 hh).1; omega
       rw [Array.getElem?_append_left (by unfold putRowK putRow mapBlock; simpa [Sort.ahead] using hk2)]
       exact map_other (by omega)
theorem isAggR : ∀ w, (isAgg (sortR_ren.t 24)).run Tryd.prog w = .ok true w := Tryd.isAgg23
theorem sizeR : ∀ w, (Go.sizeOf (sortR_ren.t 24)).run Tryd.prog w = .ok 2 w := Tryd.sizeOf23
theorem holds_own {w : World} {base : Nat} {e : TypeId} {b c : Nat} {l : List Rng} (h : w.ownsRow base e 2 (.slice (some ⟨b, 0, none⟩) l.length c) l.length (rc l)) : HoldsK encR 2 w b 0 l.toArray ∧ b < w.heap.size := by
 obtain ⟨h1, h2⟩ := h
 rcases h2 with ⟨h2, _⟩ | ⟨b', cap, cur, he, hb, hh, hc, hm, hs, ht⟩
 · cases h2
 · injection he with e1 e2 e3
   injection e1 with e1
   injection e1 with e1
   subst e1 e3
   refine ⟨fun j hj => ?_, (Array.getElem?_eq_some_iff.1 hh).1⟩
   have hj2 : j < l.length * 2 := by simpa using hj
   refine ⟨?_, frozen_of_row _ _ _ _ _ hh⟩
   rw [cell_of_row _ _ _ _ _ _ hh, Nat.zero_add, ← Array.getElem?_toList]
   have h3 : (cur.toList.take (l.length * 2))[j]? = (rc l)[j]? := by rw [ht]
   rw [List.getElem?_take_of_lt hj2] at h3
   rw [h3, ← flatK_rc, Array.getElem?_toList, Array.getElem?_eq_getElem hj, ← getElem!_pos _ j hj]
   rfl
set_option maxRecDepth 100000 in
theorem sort_some (b c : Nat) (l : List Rng) (w : World) (base : Nat) (e : TypeId) (hl : l.length ≤ 1000000) (hx : w.ownsRow base e 2 (.slice (some ⟨b, 0, none⟩) l.length c) l.length (rc l)) :
 Calls Tryd.prog 51 #[.slice (some ⟨b, 0, none⟩) l.length c, .func (Fn.func 52) #[] #[]] w fun e' w' => e' = .returned (.tuple #[]) ∧ ∃ l', l'.length = l.length ∧ l'.Perm l ∧ l'.Pairwise (fun x y => x.lo ≤ y.lo) ∧ w'.ownsRow base e 2 (.slice (some ⟨b, 0, none⟩) l.length c) l.length (rc l') ∧ Go.RowKit.Below base w w' := by
 have eg : ∀ args w, (callFunc 52 args).run Tryd.prog w = .ok (.enter 52 args) w := enters_of Tryd.func52 (by kernel_rfl) rfl
 obtain ⟨hH, hb⟩ := holds_own hx
 have hcon := AnyQ.slices_SortFunc sortR 2 isAggR sizeR encR encR_len (fun x v hv => by simp [encR] at hv; rcases hv with rfl | rfl <;> rfl) cfR swoR 52 #[] b 0 c l.toArray w eg (lays_R b 0 l.toArray.size w) hH hb (by simp; omega)
 change Calls Tryd.prog 51 _ _ _ at hcon
 refine hcon.mono ?_
 rintro e' w' ⟨rfl, d', m, os, hp, hs, rfl⟩
 obtain ⟨p1, _, p3⟩ := hp
 have hsz : d'.toList.length = l.length := by rw [Array.length_toList, p1]; simp
 have hso := sorted_own hsz hx m os
 refine ⟨rfl, d'.toList, hsz, ?_, ?_, hso.1, hso.2⟩
 · have h1 : d'.extract 0 l.toArray.size = d' := by rw [← p1]; exact Array.extract_size
   have h2 : l.toArray.extract 0 l.toArray.size = l.toArray := Array.extract_size
   rw [h1, h2] at p3
   exact p3
 · rw [List.pairwise_iff_getElem]
   intro i j hi hj hij
   have h1 := hs i j (Nat.zero_le _) hij (by rw [← p1]; simpa using hj)
   rw [getElem!_pos _ _ (by simpa using hj), getElem!_pos _ _ (by simpa using hi), ltR, decide_eq_false_iff_not] at h1
   simp only [Array.getElem_toList]
   omega
end Go.Proofs.YtnkaoplgmglijaaDoor.Un
namespace Go.Proofs.YtnkaoplgmglijaaDoor.Un
open Go.RowKit
set_option maxRecDepth 100000 in
set_option maxHeartbeats 1000000 in
theorem insert_nil (F : Value) (w : World) : Calls Tryd.prog 85 #[.slice none 0 0, I 0, I 0, F] w fun e w' => e = .returned (.tuple #[]) ∧ Go.RowKit.Below w.heap.size w w' := by
 go_enter Tryd.func85, Tryd.ntmps85
 go_wp2_with fail
 go_loopw [8] (fun i wr => i = .int .i64 1 ∧ wr = w) (fun _ _ => 0)
 case atStart => exact ⟨rfl, rfl⟩
 case round =>
  obtain ⟨rfl, rfl⟩ := hrel
  go_wp2_with fail
  go_end0
  exact ⟨rfl, Below.refl _ _⟩
set_option maxRecDepth 100000 in
set_option maxHeartbeats 1000000 in
theorem pdq_nil (F : Value) (w : World) : Calls Tryd.prog 73 #[.slice none 0 0, I 0, I 0, I 0, F] w fun e w' => e = .returned (.tuple #[]) ∧ Go.RowKit.Below w.heap.size w w' := by
 have ci := Lib.hid fun W => insert_nil F W
 go_enter Tryd.func73, Tryd.ntmps73
 go_wp2_with fail
 go_loopw [1, 2] (fun a b wr => a = I 0 ∧ b = I 0 ∧ wr = w) (fun _ _ _ => 0)
 case atStart => exact ⟨rfl, rfl, rfl⟩
 case round =>
  obtain ⟨rfl, rfl, rfl⟩ := hrel
  go_wp2_with fail
  refine (ci.out _).mono ?_
  rintro e w1 ⟨rfl, hb⟩
  have HB := Lib.hid hb
  clear hb
  go_wp2_with fail
  refine bodyPost_ret (results_none rfl _ _ _) rfl ?_
  exact ⟨rfl, HB.out⟩
set_option maxRecDepth 100000 in
set_option maxHeartbeats 1000000 in
theorem len_nil (w : World) : Calls Tryd.prog 74 #[.int .u64 0] w fun e w' => e = .returned (I 0) ∧ Go.RowKit.Below w.heap.size w w' := by
 have ci := len64_any 0 w (by decide)
 have h0 : Lib.bitLen 0 = 0 := by decide
 rw [h0] at ci
 have CI := Lib.hid ci
 clear ci h0
 go_enter Tryd.func74, Tryd.ntmps74
 go_wp2_with fail
 refine CI.out.mono ?_
 rintro e w1 ⟨rfl, rfl⟩
 go_wp2_with fail
 go_ret
 exact ⟨rfl, Below.refl _ _⟩
set_option maxRecDepth 100000 in
set_option maxHeartbeats 1000000 in
theorem sort_nil (F : Value) (w : World) : Calls Tryd.prog 51 #[.slice none 0 0, F] w fun e w' => e = .returned (.tuple #[]) ∧ Go.RowKit.Below w.heap.size w w' := by
 have c1 := Lib.hid fun W => len_nil W
 have c2 := Lib.hid fun W => pdq_nil F W
 go_enter Tryd.func51, Tryd.ntmps51
 go_wp2_with fail
 refine (c1.out _).mono ?_
 rintro e w1 ⟨rfl, hb⟩
 have HB := Lib.hid hb
 clear hb
 go_wp2_with fail
 refine (c2.out _).mono ?_
 rintro e w2 ⟨rfl, hb⟩
 have HB2 := Lib.hid (HB.out.trans (hb.mono HB.out.size))
 clear hb
 go_wp2_with fail
 go_end0
 exact ⟨rfl, HB2.out⟩
theorem sort_any (V : Value) (l : List Rng) (w : World) (base : Nat) (e : TypeId) (hl : l.length ≤ 1000000) (hB : base ≤ w.heap.size) (hx : w.ownsRow base e 2 V l.length (rc l)) :
 Calls Tryd.prog 51 #[V, .func (Fn.func 52) #[] #[]] w fun e' w' => e' = .returned (.tuple #[]) ∧ ∃ l', l'.length = l.length ∧ l'.Perm l ∧ l'.Pairwise (fun x y => x.lo ≤ y.lo) ∧ w'.ownsRow base e 2 V l.length (rc l') ∧ Go.RowKit.Below base w w' := by
 rcases hx.2 with ⟨h1, h2⟩ | ⟨b, cap, cur, rfl, _⟩
 · obtain rfl : l = [] := by
    rcases l with _ | ⟨x, l⟩
    · rfl
    · exact absurd h2 (by simp)
   subst h1
   refine (sort_nil _ w).mono ?_
   rintro e' w' ⟨rfl, hb⟩
   exact ⟨rfl, [], rfl, List.Perm.refl _, List.Pairwise.nil, own_below hx hb, hb.mono hB⟩
 · exact sort_some b cap l w base e hl hx
end Go.Proofs.YtnkaoplgmglijaaDoor.Un
