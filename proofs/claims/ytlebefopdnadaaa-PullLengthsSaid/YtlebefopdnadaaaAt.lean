/- The contract of at of package pull's chart. -/
import Derived.Test.YtlebefopdnadaaaKn
import Derived.Test.YtlebefopdnadaaaTail
namespace Go.Proofs.Ytlebefopdnadaaa
open Go.RowKit
def Kn.c (k : Kn) : Nat → Value
  | 0 => I k.lo | 1 => I k.hi | _ => .bool k.some
def rK (f : Nat → Kn) (k j : Nat) : Value := (f k).c j
def kArr (f : Nat → Kn) (n : Nat) : Array Value := (flat 3 (rK f) n).toArray
theorem kArr_size (f : Nat → Kn) (n : Nat) : (kArr f n).size = n * 3 := by simp [kArr, flat_len]
theorem kArr_get (f : Nat → Kn) {n k j : Nat} (hk : k < n) (hj : j < 3) : (kArr f n)[k * 3 + j]? = some ((f k).c j) := by
  simp only [kArr, List.getElem?_toArray]; exact flat_get _ hk hj
/-- A chart in memory: a puller, what is known before and from each second. -/
structure Chart (w : World) (cb bb fb : Nat) (p : Vec) (n : Nat) (B F : Nat → Kn) : Prop where
  c : ∀ j, j < 117 → w.cell? ⟨cb, j, none⟩ = some (I (p j))
  cs : w.cell? ⟨cb, 117, none⟩ = some (.slice (some ⟨bb, 0, none⟩) n n)
  cf : w.cell? ⟨cb, 118, none⟩ = some (.slice (some ⟨fb, 0, none⟩) n n)
  b : ∀ k, k < n → ∀ j, j < 3 → w.cell? ⟨bb, k * 3 + j, none⟩ = some ((B k).c j)
  f : ∀ k, k < n → ∀ j, j < 3 → w.cell? ⟨fb, k * 3 + j, none⟩ = some ((F k).c j)
theorem Chart.below {w w' : World} {cb bb fb n : Nat} {p : Vec} {B F : Nat → Kn} (h : Chart w cb bb fb p n B F) (hb : Below w.heap.size w w') : Chart w' cb bb fb p n B F where
  c := fun j hj => (hb.cell (p := ⟨cb, j, none⟩) (block_lt_of_cell (h.c j hj))).trans (h.c j hj)
  cs := (hb.cell (p := ⟨_, _, none⟩) (block_lt_of_cell h.cs)).trans h.cs
  cf := (hb.cell (p := ⟨_, _, none⟩) (block_lt_of_cell h.cf)).trans h.cf
  b := fun k hk j hj => (hb.cell (p := ⟨_, _, none⟩) (block_lt_of_cell (h.b k hk j hj))).trans (h.b k hk j hj)
  f := fun k hk j hj => (hb.cell (p := ⟨_, _, none⟩) (block_lt_of_cell (h.f k hk j hj))).trans (h.f k hk j hj)
set_option maxRecDepth 100000 in
set_option maxHeartbeats 1000000 in
theorem at_any (cb bb fb n : Nat) (p : Vec) (B F : Nat → Kn) (t : Int) (w : World) (h : Chart w cb bb fb p n B F) (ht : 0 ≤ t ∧ t < n) :
    Calls Try.prog 61 #[.pointer (some ⟨cb, 0, none⟩), I t] w fun e w' => e = .returned (meetK (B t.toNat) (F t.toNat)).val ∧ Below w.heap.size w w' := by
  obtain ⟨t1, t2⟩ := ht
  obtain ⟨W1, hW1⟩ : ∃ W1, W1 = w.alloc (.cells #[I 0, I 0, .bool false] 147) := ⟨_, rfl⟩
  have H1 : Chart W1 cb bb fb p n B F := by rw [hW1]; exact h.below ((Below.refl _ _).alloc (Nat.le_refl _) _)
  have HR : Hid (W1.heap[w.heap.size]? = some (.cells #[I 0, I 0, .bool false] 147 (0, 0))) := by show W1.heap[_]? = _; rw [hW1]; exact heap_last _ _ _ rfl
  have HU : Hid (∀ W, Below W1.heap.size W1 W → Below w.heap.size w W) := fun W hW => by rw [hW1] at hW; exact under2 hW
  have HW := Lib.hid hW1
  have y0 := ovr_cell H1.cs
  have y1 := ovr_cell H1.cf
  have hk : t.toNat < n := by omega
  have b0 := ovr_cell (H1.b t.toNat hk 0 (by omega))
  have b1 := ovr_cell (H1.b t.toNat hk 1 (by omega))
  have b2 := ovr_cell (H1.b t.toNat hk 2 (by omega))
  have f0 := ovr_cell (H1.f t.toNat hk 0 (by omega))
  have f1 := ovr_cell (H1.f t.toNat hk 1 (by omega))
  have f2 := ovr_cell (H1.f t.toNat hk 2 (by omega))
  simp only [Kn.c, Nat.add_zero] at b0 b1 b2 f0 f1 f2
  clear h H1 hW1
  go_enter Try.func61, Try.ntmps61
  go_wp2
  rw [← HW.out]
  refine wp_region_below_last (by kernel_rfl) (by kernel_rfl) (by kernel_rfl) ?_
  simp only [skipLast_two, skipLast_one, lastOf_two, lastOf_one]
  repeat (go_big_quiet_step ((go_at_call 87; exact call_below (meet_any (B t.toNat) (F t.toNat) _))))
  refine wpQuiet_nil ?_
  intro w1 hb1
  have hr1 := (hb1.block _ (Array.getElem?_eq_some_iff.1 HR.out).1).trans HR.out
  refine wp_store_row 147 _ _ rfl w.heap.size rfl _ _ hr1 (knArr (meetK (B t.toNat) (F t.toNat))) rfl (knOne _) rfl (by kernel_rfl) ?_
  go_wp2
  refine bodyPost_ret (results_cell_only rfl _ _ w.heap.size 147 (knArr (meetK (B t.toNat) (F t.toNat))) (0, 0) _ rfl (setRow_same hr1) Try.underlying147 rfl (by kernel_rfl)) rfl ?_
  exact ⟨rfl, below_setRow (HU.out _ hb1) (Nat.le_refl _) _⟩
end Go.Proofs.Ytlebefopdnadaaa
