/- The contract of runs of package pull: the runs of seconds for which something is true. -/
import Derived.Test.YtlebefopdnadaaaAc
namespace Go.Proofs.Ytlebefopdnadaaa
open Go.RowKit
def rnStep (b : Bool) (k : Nat) (q : List Rng × Bool) : List Rng × Bool :=
  if b then (if q.2 then (q.1.dropLast ++ [⟨(q.1.getLastD ⟨0, 0⟩).lo, k⟩], true) else (q.1 ++ [⟨k, k⟩], true)) else (q.1, false)
def rnK (f : Nat → Bool) : Nat → List Rng × Bool
  | 0 => ([], false) | k + 1 => rnStep (f k) k (rnK f k)
def runsF (f : Nat → Bool) (n : Nat) : List Rng := (rnK f n).1
theorem rnK_open (f : Nat → Bool) : ∀ k, (rnK f k).2 = true → ∃ i x, (rnK f k).1 = i ++ [x]
  | 0, h => by cases h
  | k + 1, h => by
    simp only [rnK, rnStep] at h ⊢
    split
    · split
      · exact ⟨_, _, rfl⟩
      · exact ⟨_, _, rfl⟩
    · rename_i h1; rw [if_neg h1] at h; cases h
theorem rnK_len (f : Nat → Bool) : ∀ k, (rnK f k).1.length ≤ k
  | 0 => by simp [rnK]
  | k + 1 => by
    have := rnK_len f k
    simp only [rnK, rnStep]
    split
    · split
      · simp; omega
      · simp; omega
    · simp only; omega
theorem rc_len (l : List Rng) : (rc l).length = l.length * 2 := by rw [rc_flat, flat_len]
theorem rc_set (i : List Rng) (x : Rng) (k : Int) : (rc (i ++ [x])).set (i.length * 2 + 1) (I k) = rc (i ++ [⟨x.lo, k⟩]) := by
  rw [rc_app, rc_app, List.set_append_right _ _ (by rw [rc_len]; omega), rc_len]
  have : i.length * 2 + 1 - i.length * 2 = 1 := by omega
  rw [this]; rfl
set_option maxHeartbeats 1000000 in
theorem runs_at (cb : Nat) (N : Nat) (f : Nat → Bool) (w : World) (hN : N ≤ 1000000)
    (hf : ∀ k, k < N → ∀ W, Below w.heap.size w W → Calls Try.prog 69 #[.pointer (some ⟨cb, 0, none⟩), I (k : Nat)] W fun e w' => e = .returned (.bool (f k)) ∧ Below W.heap.size W w') :
    Calls Try.prog 68 #[I N, .func (Fn.func 69) #[.pointer (some ⟨cb, 0, none⟩)] #[]] w (RetR w (runsF f N)) := by
  have Hf := Lib.hid hf
  clear hf
  obtain ⟨i0, hi0, iz0, iz1, iz2⟩ := info_parts rng_info
  go_enter Try.func68, Try.ntmps68
  go_wp2
  go_loopw [5, 6, 10] (fun v op i wr => ∃ k l o, k ≤ N ∧ i = .int .i64 (k : Nat) ∧ rnK f k = (l, o) ∧ op = .bool o ∧ wr.ownsRow w.heap.size 23 2 v l.length (rc l) ∧ Below w.heap.size w wr) (fun _ _ i _ => N - (intOf i).toNat)
  case atStart => exact ⟨0, [], false, by omega, rfl, rfl, rfl, ⟨rfl, .inl ⟨rfl, rfl⟩⟩, Below.refl _ _⟩
  case round =>
    obtain ⟨k, l, o, hk, rfl, hst, rfl, hown, hbw⟩ := hrel
    have hsz := hbw.size
    have hll : l.length ≤ k := by have := rnK_len f k; rw [hst] at this; exact this
    have hop := rnK_open f k
    rw [hst] at hop
    have Hop := Lib.hid hop
    have Hst := Lib.hid hst
    clear hst hop
    by_cases hlt : k < N
    · go_wp2_with fail
      refine (Hf.out k hlt _ hbw).mono ?_
      rintro e w1 ⟨rfl, hb1⟩
      have hB1 : Below w.heap.size w w1 := hbw.trans (hb1.mono hsz)
      have Hown := Lib.hid (own_below hown hb1)
      have hns : Hid (rnK f (k + 1) = rnStep (f k) k (l, o)) := by show _ = _; rw [← Hst.out]; rfl
      have z1 := hB1.size
      clear hown
      rcases hfk : f k with _ | _
      · have hn2 : Hid (rnK f (k + 1) = (l, false)) := by show _ = _; rw [hns.out, hfk]; rfl
        go_wp2_with fail
        go_roundw
        case rel => exact ⟨k + 1, l, false, by omega, by go_num, hn2.out, rfl, Hown.out, hB1⟩
        case measure => simp [intOf]; omega
      · rcases o with _ | _
        · have hn2 : Hid (rnK f (k + 1) = (l ++ [⟨k, k⟩], true)) := by show _ = _; rw [hns.out, hfk]; rfl
          have hrc := Lib.hid (rc_app l ⟨k, k⟩)
          go_wp2_with (at_builtin; go_loud (refine wpList_append_own _ rfl _ _ 68 rfl w.heap.size 23 i0 _ 2 16 Try.underlying68 hi0 iz0 iz1 iz2 rfl (by decide) u5 l.length (rc l) rfl (Hown.out.alloc _) ⟨w1.heap.size, 0, none⟩ 1 1 [I k, I k] rfl (by rfl) (news_lit (cs := #[I k, I k]) (heap_last _ _ _ (by simp))) ?h1 ?h63 ?hby ?hba ?_))
          case h1 => simp [Value.oneCell']
          case h63 => unfold maxLen; omega
          case hby => omega
          case hba => first | omega | (simp; omega)
          intro v' w2 own3 hg2 _
          have hB3 : Below w.heap.size w w2 := (hB1.alloc z1 _).grown hg2 (by simp; omega) (fun g hg => (Hown.out.lt g hg).1)
          have own4 : Hid (w2.ownsRow w.heap.size 23 2 v' (l ++ [(⟨k, k⟩ : Rng)]).length (rc (l ++ [⟨k, k⟩]))) := by
            show w2.ownsRow _ _ _ _ _ _
            rw [hrc.out]; simpa using own3
          clear own3
          go_wp2_with fail
          go_roundw
          case rel => exact ⟨k + 1, _, true, by omega, by go_num, hn2.out, rfl, own4.out, hB3⟩
          case measure => simp [intOf]; omega
        · obtain ⟨ii, x, rfl⟩ := Hop.out rfl
          have hn2 : Hid (rnK f (k + 1) = (ii ++ [⟨x.lo, k⟩], true)) := by show _ = _; rw [hns.out, hfk]; simp [rnStep]
          obtain ⟨g, cap, rfl, hg1, hg2⟩ := Hown.out.form (by simp)
          have c1 : w1.cell? ⟨g, ii.length * 2 + 1, none⟩ = some (I x.hi) := by
            rw [Hown.out.cellAt _ (by simp; omega), rc_app, List.getElem?_append_right (by rw [rc_len]; omega), rc_len, show ii.length * 2 + 1 - ii.length * 2 = 1 by omega]; rfl
          have c2 : w1.frozen? ⟨g, ii.length * 2 + 1, none⟩ = false := Hown.out.frozenAt _
          have hl1 : (ii ++ [x]).length = ii.length + 1 := by simp
          have own4 : Hid ((w1.setCell ⟨g, ii.length * 2 + 1, none⟩ (I k)).ownsRow w.heap.size 23 2 (.slice (some ⟨g, 0, none⟩) (ii ++ [(⟨x.lo, k⟩ : Rng)]).length cap) (ii ++ [(⟨x.lo, k⟩ : Rng)]).length (rc (ii ++ [⟨x.lo, k⟩]))) := by
            have := (Hown.out.stored (ii.length * 2 + 1) (I k)).1
            rw [rc_set] at this
            show World.ownsRow _ _ _ _ _ _ _
            simpa using this
          have i1 : IntKind.i64.wrap ((ii.length : Int) + 1 - 1) = ii.length := by rw [IntWalk.i64_in _ (by omega)]; omega
          simp only [hl1]
          go_wp2_with fail
          go_roundw
          case rel => exact ⟨k + 1, _, true, by omega, by go_num, hn2.out, rfl, by simpa using own4.out, hB1.setCell hg1 _⟩
          case measure => simp [intOf]; omega
    · have hkn : k = N := by omega
      have hfin : Hid (runsF f N = l) := by show _ = _; rw [runsF, ← hkn, Hst.out]
      obtain ⟨A, c, rfl, hr⟩ := Rd.of_rc hown
      have HR := Lib.hid hr
      clear hr
      go_wp2_with fail
      go_ret
      exact ⟨A, _, c, rfl, by rw [hfin.out], by rw [hfin.out]; exact HR.out, hbw⟩
set_option maxHeartbeats 1000000 in
theorem runs_sd (b1 b2 : Nat) (N : Nat) (f : Nat → Bool) (w : World) (hN : N ≤ 1000000)
    (hf : ∀ k, k < N → ∀ W, Below w.heap.size w W → Calls Try.prog 72 #[I (k : Nat), .pointer (some ⟨b1, 0, none⟩), .pointer (some ⟨b2, 0, none⟩)] W fun e w' => e = .returned (.bool (f k)) ∧ Below W.heap.size W w') :
    Calls Try.prog 68 #[I N, .func (Fn.func 72) #[] #[.pointer (some ⟨b1, 0, none⟩), .pointer (some ⟨b2, 0, none⟩)]] w (RetR w (runsF f N)) := by
  have Hf := Lib.hid hf
  clear hf
  obtain ⟨i0, hi0, iz0, iz1, iz2⟩ := info_parts rng_info
  go_enter Try.func68, Try.ntmps68
  go_wp2
  go_loopw [5, 6, 10] (fun v op i wr => ∃ k l o, k ≤ N ∧ i = .int .i64 (k : Nat) ∧ rnK f k = (l, o) ∧ op = .bool o ∧ wr.ownsRow w.heap.size 23 2 v l.length (rc l) ∧ Below w.heap.size w wr) (fun _ _ i _ => N - (intOf i).toNat)
  case atStart => exact ⟨0, [], false, by omega, rfl, rfl, rfl, ⟨rfl, .inl ⟨rfl, rfl⟩⟩, Below.refl _ _⟩
  case round =>
    obtain ⟨k, l, o, hk, rfl, hst, rfl, hown, hbw⟩ := hrel
    have hsz := hbw.size
    have hll : l.length ≤ k := by have := rnK_len f k; rw [hst] at this; exact this
    have hop := rnK_open f k
    rw [hst] at hop
    have Hop := Lib.hid hop
    have Hst := Lib.hid hst
    clear hst hop
    by_cases hlt : k < N
    · go_wp2_with fail
      refine (Hf.out k hlt _ hbw).mono ?_
      rintro e w1 ⟨rfl, hb1⟩
      have hB1 : Below w.heap.size w w1 := hbw.trans (hb1.mono hsz)
      have Hown := Lib.hid (own_below hown hb1)
      have hns : Hid (rnK f (k + 1) = rnStep (f k) k (l, o)) := by show _ = _; rw [← Hst.out]; rfl
      have z1 := hB1.size
      clear hown
      rcases hfk : f k with _ | _
      · have hn2 : Hid (rnK f (k + 1) = (l, false)) := by show _ = _; rw [hns.out, hfk]; rfl
        go_wp2_with fail
        go_roundw
        case rel => exact ⟨k + 1, l, false, by omega, by go_num, hn2.out, rfl, Hown.out, hB1⟩
        case measure => simp [intOf]; omega
      · rcases o with _ | _
        · have hn2 : Hid (rnK f (k + 1) = (l ++ [⟨k, k⟩], true)) := by show _ = _; rw [hns.out, hfk]; rfl
          have hrc := Lib.hid (rc_app l ⟨k, k⟩)
          go_wp2_with (at_builtin; go_loud (refine wpList_append_own _ rfl _ _ 68 rfl w.heap.size 23 i0 _ 2 16 Try.underlying68 hi0 iz0 iz1 iz2 rfl (by decide) u5 l.length (rc l) rfl (Hown.out.alloc _) ⟨w1.heap.size, 0, none⟩ 1 1 [I k, I k] rfl (by rfl) (news_lit (cs := #[I k, I k]) (heap_last _ _ _ (by simp))) ?h1 ?h63 ?hby ?hba ?_))
          case h1 => simp [Value.oneCell']
          case h63 => unfold maxLen; omega
          case hby => omega
          case hba => first | omega | (simp; omega)
          intro v' w2 own3 hg2 _
          have hB3 : Below w.heap.size w w2 := (hB1.alloc z1 _).grown hg2 (by simp; omega) (fun g hg => (Hown.out.lt g hg).1)
          have own4 : Hid (w2.ownsRow w.heap.size 23 2 v' (l ++ [(⟨k, k⟩ : Rng)]).length (rc (l ++ [⟨k, k⟩]))) := by
            show w2.ownsRow _ _ _ _ _ _
            rw [hrc.out]; simpa using own3
          clear own3
          go_wp2_with fail
          go_roundw
          case rel => exact ⟨k + 1, _, true, by omega, by go_num, hn2.out, rfl, own4.out, hB3⟩
          case measure => simp [intOf]; omega
        · obtain ⟨ii, x, rfl⟩ := Hop.out rfl
          have hn2 : Hid (rnK f (k + 1) = (ii ++ [⟨x.lo, k⟩], true)) := by show _ = _; rw [hns.out, hfk]; simp [rnStep]
          obtain ⟨g, cap, rfl, hg1, hg2⟩ := Hown.out.form (by simp)
          have c1 : w1.cell? ⟨g, ii.length * 2 + 1, none⟩ = some (I x.hi) := by
            rw [Hown.out.cellAt _ (by simp; omega), rc_app, List.getElem?_append_right (by rw [rc_len]; omega), rc_len, show ii.length * 2 + 1 - ii.length * 2 = 1 by omega]; rfl
          have c2 : w1.frozen? ⟨g, ii.length * 2 + 1, none⟩ = false := Hown.out.frozenAt _
          have hl1 : (ii ++ [x]).length = ii.length + 1 := by simp
          have own4 : Hid ((w1.setCell ⟨g, ii.length * 2 + 1, none⟩ (I k)).ownsRow w.heap.size 23 2 (.slice (some ⟨g, 0, none⟩) (ii ++ [(⟨x.lo, k⟩ : Rng)]).length cap) (ii ++ [(⟨x.lo, k⟩ : Rng)]).length (rc (ii ++ [⟨x.lo, k⟩]))) := by
            have := (Hown.out.stored (ii.length * 2 + 1) (I k)).1
            rw [rc_set] at this
            show World.ownsRow _ _ _ _ _ _ _
            simpa using this
          have i1 : IntKind.i64.wrap ((ii.length : Int) + 1 - 1) = ii.length := by rw [IntWalk.i64_in _ (by omega)]; omega
          simp only [hl1]
          go_wp2_with fail
          go_roundw
          case rel => exact ⟨k + 1, _, true, by omega, by go_num, hn2.out, rfl, by simpa using own4.out, hB1.setCell hg1 _⟩
          case measure => simp [intOf]; omega
    · have hkn : k = N := by omega
      have hfin : Hid (runsF f N = l) := by show _ = _; rw [runsF, ← hkn, Hst.out]
      obtain ⟨A, c, rfl, hr⟩ := Rd.of_rc hown
      have HR := Lib.hid hr
      clear hr
      go_wp2_with fail
      go_ret
      exact ⟨A, _, c, rfl, by rw [hfin.out], by rw [hfin.out]; exact HR.out, hbw⟩
end Go.Proofs.Ytlebefopdnadaaa
