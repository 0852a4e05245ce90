/- Copies of lists within regions that draw: the empty literal, an append onto it; two allocs. -/
import Derived.Test.YtliolnfcgaflcaaGreatDk
import Derived.Test.YtliolnfcgaflcaaGreatU5
import Derived.Test.YtliolnfcgaflcaaGreatHp
import Derived.Test.YtliolnfcgaflcaaGreatJo
import Derived.ArgAppend
namespace Go.Proofs.YtliolnfcgaflcaaGreat.Un
open Go.RowKit
def SlAt (B0 sz n : Nat) (g : Nat → Nat → Value) (u : Value) (w : World) : Prop := ∃ A c, u = .slice A n c ∧ n ≤ c ∧ Rd w w.heap.size sz A n g ∧ (0 < n → ∃ b o, A = some ⟨b, o, none⟩ ∧ B0 ≤ b)
theorem SlAt.box {B0 sz n : Nat} {g : Nat → Nat → Value} {u : Value} {w : World} (h : SlAt B0 sz n g u w) : Box (SlAt B0 sz n g) u w := fun w' hl => by
 obtain ⟨A, c, hu, hn, hr, hb⟩ := h
 exact ⟨A, c, hu, hn, (hr.below hl).more hl.size, hb⟩
theorem SlAt.set {B0 sz n c : Nat} {A : Option Addr} {g : Nat → Nat → Value} {w : World} (h : SlAt B0 sz n g (.slice A n c) w) {q : Nat} (hq : q < B0) (cs : Array Value) : n ≤ c ∧ Rd (w.setRow q cs) (w.setRow q cs).heap.size sz A n g := by
 obtain ⟨A', c', hu, hn, hr, hb⟩ := h
 injection hu with e1 e2 e3
 subst e1 e3
 refine ⟨hn, fun h0 => ?_⟩
 obtain ⟨b, o, hA, hlt, hc⟩ := hr h0
 obtain ⟨b2, o2, hA2, hB⟩ := hb h0
 have hbb : b = b2 := by rw [hA] at hA2; injection hA2 with e; injection e
 subst hbb
 refine ⟨b, o, hA, by rw [setRow_size]; exact hlt, fun k hk j hj => ?_⟩
 rw [← hc k hk j hj]
 unfold World.cell?
 rw [setRow_other (show b ≠ q by omega)]
theorem app_grow {P : Program} {o : Oper} {a : Act} {w : World} (s x : Operand) (t : TypeId) (ho : o.op = .call { callee := .builtin .append, args := #[s, x], argTypes := #[t, t] })
 (e : TypeId) (i : TypeInfo) (z : Value) (sz bytes : Nat) (ht : P.underlying t = some (.slice e)) (hi : P.info? e = some i) (hz : i.zero = some z) (hsz : i.size = sz) (hby : i.bytes = bytes) (hzs : z.cells.size = sz) (h0 : 0 < sz)
 (b : Nat) (hs : a.eval s = .slice (some ⟨b, 0, none⟩) 0 0) (A : Option Addr) (n c : Nat) (hx : a.eval x = .slice A n c) (g : Nat → Nat → Value) (hr : Rd w w.heap.size sz A n g) (hn : n ≤ 1000000) (hb : bytes ≤ 1000000) {B0 : Nat} (hB0 : B0 ≤ w.heap.size) :
 Oper.grows P o a w (SlAt B0 sz n g) := by
 have hrun : ∃ u w', (Builtin.append_ #[t, t] o.type #[.slice (some ⟨b, 0, none⟩) 0 0, .slice A n c]).run P w = .ok u w' ∧ Le w w' ∧ SlAt B0 sz n g u w' := by
  by_cases hn0 : n = 0
  · subst hn0
    refine ⟨.slice (some ⟨b, 0, none⟩) 0 0, w, ?_, Le.refl w, ⟨_, _, rfl, Nat.le_refl _, Rd.nil, fun h => absurd h (by omega)⟩⟩
    cases A <;> simp [go_sem, Builtin.append_, run_underlying ht, sizeOf, typeInfo, hi, Builtin.lenOf, Builtin.firstCells, storeCells]
  · obtain ⟨b2, o2, hA, _, hc⟩ := hr (by omega)
    subst hA
    have hm : n * bytes ≤ 1000000 * 1000000 := Nat.mul_le_mul hn hb
    obtain ⟨v', w', hrun, hown, hgr⟩ := run_append_arg_grows (P := P) w t o.type e i z sz bytes ht hi hz hsz hby hzs h0 ⟨b, 0, none⟩ 0 0 [] (by simp) (fun j u hu => by simp at hu) ⟨b2, o2, none⟩ n c (flat sz g n) (flat_len _ _ _) (Rd.flat_at hc h0) (by omega) (by unfold maxLen; omega) (by rw [Nat.zero_add]; omega)
    rw [Nat.zero_add, List.nil_append] at hown
    obtain ⟨A', c', hv, hnc, hrd⟩ := Rd.of_own_cap hown
    refine ⟨v', w', hrun, (Below.refl _ _).grown hgr (Nat.le_refl _) (fun g hg => by cases hg), A', c', hv, hnc, hrd, fun _ => ?_⟩
    rcases hown.2 with ⟨hq, _⟩ | ⟨q, cap, cur, hq, hqb, _⟩
    · rw [hv] at hq; injection hq with e1 e2 e3; omega
    · rw [hv] at hq; injection hq with e1 e2 e3
      exact ⟨q, 0, e1, by omega⟩
 obtain ⟨u, w', hrun, hl, hsl⟩ := hrun
 unfold Oper.grows
 have he : (execOp a.eval o).run P w = .ok (.value u) w' := by
  simp [execOp, ho, resolve, invoke, builtin, hs, hx, hrun, Result.andThen]
 rw [he]
 exact ⟨hl, hsl.box⟩
def Emp (u : Value) (_ : World) : Prop := ∃ b, u = .slice (some ⟨b, 0, none⟩) 0 0
theorem emp_grow (w : World) {e : TypeId} : Le w (w.alloc (.cells #[] e)) ∧ Box Emp (.slice (some ⟨w.heap.size, 0, none⟩) 0 0) (w.alloc (.cells #[] e)) :=
 ⟨(Below.refl _ _).alloc (Nat.le_refl _) _, fun _ _ => ⟨_, rfl⟩⟩
theorem alloc_rng (w : World) : ∃ w', (Instr.alloc 24 true (.tuple #[])).run Tryz.prog w = .ok (.pointer (some ⟨w.heap.size, 0, none⟩)) w' := ⟨w.alloc (.cells #[I 0, I 0] 24), by kernel_rfl⟩
end Go.Proofs.YtliolnfcgaflcaaGreat.Un
