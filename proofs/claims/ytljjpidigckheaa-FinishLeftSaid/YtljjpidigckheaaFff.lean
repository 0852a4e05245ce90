/- The frame's arguments of FinishLeft: steps, what truly happens. -/
import Derived.Test.YtljjpidigckheaaFfa
import Derived.Test.YtljjpidigckheaaFfd
import Derived.Test.YtljjpidigckheaaKm
namespace Go.Proofs.Ytljjpidigckheaa.Un
open Go.RowKit Go.ChangeShapes Go.WideShapes Go.Deep
def toV (n : Nat) (z : Nat → Nat → Int) : List Rmv := (List.range n).map fun k => ⟨z k 0, ⟨z k 1, z k 2⟩, z k 3⟩
theorem toV_len (n : Nat) (z : Nat → Nat → Int) : (toV n z).length = n := by simp [toV]
theorem toV_at {n k : Nat} (z : Nat → Nat → Int) (hk : k < n) : at0 (toV n z) k = ⟨z k 0, ⟨z k 1, z k 2⟩, z k 3⟩ := at0_map _ hk
section
variable {H : Type} {enc : TypeId × Value → H} {w : World} {base : Nat} {spare : Nat → Bool} {held : Bool} {r : Reach} {b0 : Nat} {v : Value} {d : DataW H} {ps : List MemPlace}
set_option maxRecDepth 100000 in
theorem open_rmvs (hv : Value.okWide Try.prog w r b0 76 v) (h : DataW.Trod enc Try.prog w base spare held 76 v d ps) :
    ∃ (A : Option Addr) (c : Nat) (xs : List Rmv), v = .slice A xs.length c ∧ Rd w w.heap.size 4 A xs.length (rV xs) := by
  obtain ⟨a, l, c, rfl⟩ := okWide_slice Try.underlying76 hv
  obtain ⟨fuel, hf⟩ := h
  obtain ⟨A, m, c', z, he, l1, l2, hr, _⟩ := open_listK (ks := [.i64, .i64, .i64, .i64]) Try.underlying76 (by kernel_rfl) (by decide) (by kernel_rfl) hf
  refine ⟨A, c', toV m z, by rw [toV_len]; exact he, ?_⟩
  rw [toV_len]
  exact hr.same fun k hk j hj => by
    unfold rV
    rw [toV_at z hk]
    rcases j with _ | _ | _ | _ | j
    all_goals first | rfl | (simp at hj; omega)
set_option maxRecDepth 100000 in
theorem open_workedK {g0 g1 g2 g3 : Field} (hg : Try.prog.underlying 81 = some (.struct #[g0, g1, g2, g3])) (hC : Try.prog.cellsOf 81 = 4)
    (e0 : g0.type = 77) (o0 : g0.offset = 0) (e1 : g1.type = 78) (o1 : g1.offset = 1) (e2 : g2.type = 78) (o2 : g2.offset = 2) (e3 : g3.type = 79) (o3 : g3.offset = 3)
    (c0 : Try.prog.cellsOf 77 = 1) (c1 : Try.prog.cellsOf 78 = 1) (c3 : Try.prog.cellsOf 79 = 1)
    (hv : Value.okWide Try.prog w r b0 81 v) (h : DataW.Trod enc Try.prog w base spare held 81 v d ps) :
    ∃ (cm : Int) (hs am : List Int) (HA AA SA : Option Addr) (hc ac ns sc : Nat) (SP : Nat → Nat → Int), v = .agg #[H16 cm, .slice HA hs.length hc, .slice AA am.length ac, .slice SA ns sc] ∧ Rd w w.heap.size 1 HA hs.length (rH hs) ∧ Rd w w.heap.size 1 AA am.length (rH am) ∧ Rd w w.heap.size 4 SA ns (fun k j => H16 (SP k j)) ∧ (0 ≤ cm ∧ cm ≤ 65535) ∧ Is16 hs ∧ Is16 am ∧ ∀ k j, 0 ≤ SP k j ∧ SP k j ≤ 65535 := by
  obtain ⟨cs, rfl, hsz⟩ := okWide_struct hg hv
  obtain ⟨u0, u1, u2, u3, rfl⟩ := array_k4 (hsz.trans hC)
  obtain ⟨fuel, hf⟩ := h
  obtain ⟨y0, y1, y2, y3, n, _, _, h0, h1, h2, h3⟩ := _root_.Go.Joins.trod_struct4 hg hf
  have r0 : DataW.trod enc Try.prog w base spare held n 77 [u0] = some y0 := by simpa [Value.cells, e0, o0, c0] using h0
  have r1 : DataW.trod enc Try.prog w base spare held n 78 [u1] = some y1 := by simpa [Value.cells, e1, o1, c1] using h1
  have r2 : DataW.trod enc Try.prog w base spare held n 78 [u2] = some y2 := by simpa [Value.cells, e2, o2, c1] using h2
  have r3 : DataW.trod enc Try.prog w base spare held n 79 [u3] = some y3 := by simpa [Value.cells, e3, o3, c3] using h3
  have n0 := nums_in (ks := [.u16]) (by kernel_rfl) r0
  obtain ⟨a0, ha0, hw0⟩ := n0 0 (by decide)
  simp at ha0
  subst ha0
  obtain ⟨HA, hc, hs, rfl, _, _, rh, ih⟩ := open_h16 r1
  obtain ⟨AA, ac, am, rfl, _, _, ra, ia⟩ := open_h16 r2
  obtain ⟨SA, ns, sc, z, rfl, _, _, rz, hz⟩ := open_listK (ks := [.u16, .u16, .u16, .u16]) Try.underlying79 (by kernel_rfl) (by decide) (by kernel_rfl) r3
  refine ⟨a0, hs, am, HA, AA, SA, hc, ac, ns, sc, fun k j => if k < ns ∧ j < 4 then z k j else 0, rfl, rh, ra, rz.same fun k hk j hj => ?_, ku16_bd hw0, ih, ia, fun k j => ?_⟩
  · have hj4 : j < 4 := hj
    show _ = H16 (if k < ns ∧ j < 4 then z k j else 0)
    rw [if_pos ⟨hk, hj4⟩]
    match j, hj4 with
    | 0, _ => rfl
    | 1, _ => rfl
    | 2, _ => rfl
    | 3, _ => rfl
  · by_cases h : k < ns ∧ j < 4
    · simp only [if_pos h]
      have hw := hz k h.1 j h.2
      match j, h.2, hw with
      | 0, _, hw => exact ku16_bd hw
      | 1, _, hw => exact ku16_bd hw
      | 2, _, hw => exact ku16_bd hw
      | 3, _, hw => exact ku16_bd hw
    · simp only [if_neg h]
      omega
set_option maxRecDepth 100000 in
theorem open_worked (hv : Value.okWide Try.prog w r b0 81 v) (h : DataW.Trod enc Try.prog w base spare held 81 v d ps) :
    ∃ (cm : Int) (hs am : List Int) (HA AA SA : Option Addr) (hc ac ns sc : Nat) (SP : Nat → Nat → Int), v = .agg #[H16 cm, .slice HA hs.length hc, .slice AA am.length ac, .slice SA ns sc] ∧ Rd w w.heap.size 1 HA hs.length (rH hs) ∧ Rd w w.heap.size 1 AA am.length (rH am) ∧ Rd w w.heap.size 4 SA ns (fun k j => H16 (SP k j)) ∧ (0 ≤ cm ∧ cm ≤ 65535) ∧ Is16 hs ∧ Is16 am ∧ ∀ k j, 0 ≤ SP k j ∧ SP k j ≤ 65535 :=
  open_workedK Try.underlying81 (by kernel_rfl) rfl rfl rfl rfl rfl rfl rfl rfl (by kernel_rfl) (by kernel_rfl) (by kernel_rfl) hv h
end
end Go.Proofs.Ytljjpidigckheaa.Un
