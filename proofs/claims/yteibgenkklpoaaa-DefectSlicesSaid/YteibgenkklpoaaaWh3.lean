/- A list without its first element. -/
import Derived.Test.YteibgenkklpoaaaWh2
namespace Go.Proofs.Yteibgenkklpoaaa.Un
open Go.RowKit
theorem rd_at2 {w : World} {B b o n k : Nat} {xs : List Rng} (h : Rd w B 2 (some ⟨b, o, none⟩) n (rR xs)) (hk : k < n) : w.cell? ⟨b, o + k * 2, none⟩ = some (I (at0 xs k).lo) ∧ w.cell? ⟨b, o + k * 2 + 1, none⟩ = some (I (at0 xs k).hi) := by
  obtain ⟨b', o', e, _, h1, h2⟩ := h.rng hk
  injection e with e
  injection e with e1 e2
  subst e1 e2
  exact ⟨h1, h2⟩
theorem rd_tail {w : World} {B b o : Nat} {zs : List Rng} (h : Rd w B 2 (some ⟨b, o, none⟩) zs.length (rR zs)) (h0 : 0 < zs.length) : Rd w B 2 (some ⟨b, o + 2, none⟩) zs.tail.length (rR zs.tail) := fun hn => by
  obtain ⟨b', o', e, hlt, hc⟩ := h h0
  injection e with e
  injection e with e1 e2
  subst e1 e2
  refine ⟨b, o + 2, rfl, hlt, fun k hk j hj => ?_⟩
  rw [List.length_tail] at hk
  have h9 := hc (k + 1) (by omega) j hj
  have he : at0 zs.tail k = at0 zs (k + 1) := by
    rw [at0_get (by rw [List.length_tail]; omega), at0_get (by omega), List.getElem_tail]
  rw [show o + 2 + k * 2 + j = o + (k + 1) * 2 + j by omega, h9]
  unfold rR
  rw [he]
theorem wpList_slice_tail {P : Program} {ops : Array Oper} {rest : List Oper} {o : Oper} {a : Act} {w : World} {Q : Exit → Act → World → Prop} (hg : o.guard = none) (t e : TypeId) (x l : Operand) (ho : o.op = .slice t x (some l) none none) (ht : P.underlying t = some (.slice e)) (hs : ∀ w, (sizeOf e).run P w = .ok 2 w)
    (B b off c : Nat) (zs : List Rng) (hx : a.eval x = .slice (some ⟨b, off, none⟩) zs.length c) (hl : a.eval l = .int .i64 1) (h0 : 0 < zs.length) (hc : zs.length ≤ c) (hr : Rd w B 2 (some ⟨b, off, none⟩) zs.length (rR zs))
    (hK : ∀ A', Rd w B 2 A' zs.tail.length (rR zs.tail) → wpList P ops Q rest (a.put o.dst (.slice A' zs.tail.length (c - 1))) w) : wpList P ops Q (o :: rest) a w := by
  refine wpList_plain hg fun K hK' => ?_
  have he : P.elem t = e := by simp [Program.elem, ht]
  have ht' : P.underlying t = some (.slice (P.elem t)) := by rw [he]; exact ht
  have h1 := run_slice_l (P := P) w t (some ⟨b, off, none⟩) zs.length c ht' .i64 1 (by omega) (by omega)
  rw [he, hs w] at h1
  simp only [Result.andThen] at h1
  have hr1 : Rd w B 2 (if c = 1 then some ⟨b, off, none⟩ else some ⟨b, off + 2, none⟩) zs.tail.length (rR zs.tail) := by
    by_cases h : c = 1
    · have h9 : zs.tail.length = 0 := by rw [List.length_tail]; omega
      rw [h9]
      exact Rd.nil
    · rw [if_neg h]
      exact rd_tail hr h0
  have h2 : sliced (some (⟨b, off, none⟩ : Addr)) (1 : Int).toNat zs.length c 2 = .slice (if c = 1 then some ⟨b, off, none⟩ else some ⟨b, off + 2, none⟩) zs.tail.length (c - 1) := by
    unfold sliced
    rw [List.length_tail, show (1 : Int).toNat = 1 from rfl]
    rfl
  rw [h2] at h1
  unfold Oper.wp execOp
  rw [ho]
  simp only [Option.map_some, Option.map_none, hx, hl]
  rw [Sem.run_bind, run_sliceAt_slice (P := P) w t _ _ _ _ ht', h1]
  exact hK' _ _ (hK _ hr1)
end Go.Proofs.Yteibgenkklpoaaa.Un
