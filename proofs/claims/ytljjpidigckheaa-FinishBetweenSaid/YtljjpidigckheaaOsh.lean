/- Copies of sheets as facts that last; rows of blocks that are kept. -/
import Derived.Test.YtljjpidigckheaaOa
import Derived.Test.YtljjpidigckheaaNd
namespace Go.Proofs.Ytljjpidigckheaa.Un
open Go.RowKit
theorem StL.hd {w V : World} {L : List (Nat × Array Value × TypeId)} {b : Nat} {cs : Array Value} {t : TypeId} (h : StL w ((b, cs, t) :: L) V) : V.heap[b]? = some (.cells cs t (0, 0)) := h.2 _ (.head _)
theorem StL.rd {w V : World} {L : List (Nat × Array Value × TypeId)} {B sz n : Nat} {A : Option Addr} {g : Nat → Nat → Value} (h : StL w L V) (hB : B ≤ w.heap.size) (hx : Rd w B sz A n g) : Rd V B sz A n g ∧ B ≤ V.heap.size := ⟨hx.below (h.1.mono hB), Nat.le_trans hB h.1.size⟩
theorem StL.nth {w V : World} {L : List (Nat × Array Value × TypeId)} {b : Nat} {cs : Array Value} {t : TypeId} (h : StL w L V) (i : Nat) (hi : L[i]? = some (b, cs, t)) : V.heap[b]? = some (.cells cs t (0, 0)) := h.2 _ (List.mem_of_getElem? hi)
theorem rd_big {w : World} {sz n p : Nat} {A : Option Addr} {g : Nat → Nat → Value} {cs : Array Value} {t : TypeId} {fr : Nat × Nat} (h : Rd w w.heap.size sz A n g) (hp : w.heap[p]? = some (.cells cs t fr)) (hs : cs.size < n * sz) (cs' : Array Value) : Rd (w.setRow p cs') (w.setRow p cs').heap.size sz A n g := fun h0 => by
 obtain ⟨b, o, hA, hlt, hc⟩ := h h0
 have hz : 0 < sz := by rcases Nat.eq_zero_or_pos sz with h1 | h1; · subst h1; simp at hs
                        · exact h1
 have hne : b ≠ p := by
  rintro rfl
  have := hc (n - 1) (by omega) (sz - 1) (by omega)
  rw [cell_of_row _ _ _ _ _ _ hp] at this
  have h2 := (Array.getElem?_eq_some_iff.1 this).1
  have e : n * sz = (n - 1) * sz + sz := by
   obtain ⟨m, rfl⟩ : ∃ m, n = m + 1 := ⟨n - 1, by omega⟩
   rw [Nat.add_sub_cancel, Nat.add_mul, Nat.one_mul]
  omega
 refine ⟨b, o, hA, by rw [setRow_size]; exact hlt, fun k hk j hj => ?_⟩
 rw [← hc k hk j hj]
 unfold World.cell?
 rw [setRow_other hne]
theorem alloc_sht (w : World) : ∃ w', (Instr.alloc 37 true (.tuple #[])).run Try.prog w = .ok (.pointer (some ⟨w.heap.size, 0, none⟩)) w' := ⟨w.alloc (.cells #[I 0, I 0, I 0, I 0, .slice none 0 0] 37), by kernel_rfl⟩
def ShAt (x : Sht) (u : Value) (w : World) : Prop := ∃ A c, u = .agg (shA x A c) ∧ (x.s.length ≤ c ∧ c ≤ maxLen) ∧ Rd w w.heap.size 2 A x.s.length (rR x.s)
theorem os_grow {P : Program} {f : FuncId} {args : Array Value} {w : World} {x : Sht} (h : Calls P f args w (RetOs w x)) : Calls P f args w fun e w' => ∃ u, e = .returned u ∧ Le w w' ∧ Box (ShAt x) u w' :=
 h.mono fun _ _ ⟨A, c, he, h1, hr, hb⟩ => ⟨_, he, hb, fun _ hl => ⟨A, c, rfl, h1, (hr.below hl).more hl.size⟩⟩
theorem ShAt.at {x : Sht} {A : Option Addr} {c : Nat} {w : World} (h : ShAt x (.agg (shA x A c)) w) : (x.s.length ≤ c ∧ c ≤ maxLen) ∧ Rd w w.heap.size 2 A x.s.length (rR x.s) := by
 obtain ⟨A', c', hu, hn, hr⟩ := h
 obtain ⟨e1, e2⟩ : A = A' ∧ c = c' := by simpa [shA] using hu
 subst e1 e2
 exact ⟨hn, hr⟩
end Go.Proofs.Ytljjpidigckheaa.Un
