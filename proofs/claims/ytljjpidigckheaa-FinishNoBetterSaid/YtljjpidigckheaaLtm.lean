/- Facts for the walks over Trace: what it returns, as facts that last. -/
import Derived.Test.YtljjpidigckheaaFg
import Derived.Test.YtljjpidigckheaaOas
namespace Go.Proofs.Ytljjpidigckheaa.Un
open Go.RowKit
theorem wpList_app_litM {P : Program} {ops : Array Oper} {rest : List Oper} {o : Oper} {a : Act} {w : World} {Q : Exit → Act → World → Prop} (hg : o.guard = none) (s x : Operand) (t : TypeId) (ho : o.op = .call { callee := .builtin .append, args := #[s, x], argTypes := #[t, t] })
 (e : TypeId) (i : TypeInfo) (z : Value) (sz bytes : Nat) (ht : P.underlying t = some (.slice e)) (hi : P.info? e = some i) (hz : i.zero = some z) (hsz : i.size = sz) (hby : i.bytes = bytes) (hzs : z.cells.size = sz) (h0 : 0 < sz)
 (b : Nat) (hs : a.eval s = .slice (some ⟨b, 0, none⟩) 0 0) (A : Option Addr) (n c : Nat) (hx : a.eval x = .slice A n c) (g : Nat → Nat → Value) (hr : Rd w w.heap.size sz A n g) (hn : n ≤ 1000000) (hb : bytes ≤ 1000000) (B0 : Nat) (hB0 : B0 ≤ w.heap.size)
 (hK : ∀ A' c' w', Rd w' w'.heap.size sz A' n g → Below w.heap.size w w' → wpList P ops Q rest (a.put o.dst (.slice A' n c')) w') : wpList P ops Q (o :: rest) a w := by
 refine wpList_plain hg fun K hK' => ?_
 have hrun : ∃ u w', (Builtin.append_ #[t, t] o.type #[.slice (some ⟨b, 0, none⟩) 0 0, .slice A n c]).run P w = .ok u w' ∧ Below w.heap.size w w' ∧ SoC e sz B0 n (flat sz g n) u w' := by
  by_cases hn0 : n = 0
  · subst hn0
    refine ⟨.slice (some ⟨b, 0, none⟩) 0 0, w, ?_, Below.refl _ w, .inl ⟨rfl, by simp [flat], _, rfl⟩⟩
    cases A <;> simp [go_sem, Builtin.append_, run_underlying ht, sizeOf, typeInfo, hi, Builtin.lenOf, Builtin.firstCells, storeCells]
  · obtain ⟨b2, o2, hA, _, hc⟩ := hr (by omega)
    subst hA
    have hm : n * bytes ≤ 1000000 * 1000000 := Nat.mul_le_mul hn hb
    obtain ⟨v', w', hrun, hown, hgr⟩ := run_append_arg_grows (P := P) w t o.type e i z sz bytes ht hi hz hsz hby hzs h0 ⟨b, 0, none⟩ 0 0 [] (by simp) (fun j u hu => by simp at hu) ⟨b2, o2, none⟩ n c (flat sz g n) (flat_len _ _ _) (Rd.flat_at hc h0) (by omega) (by unfold maxLen; omega) (by rw [Nat.zero_add]; omega)
    rw [Nat.zero_add, List.nil_append] at hown
    exact ⟨v', w', hrun, (Below.refl _ _).grown hgr (Nat.le_refl _) (fun g hg => by cases hg), .inr (own_base hown hB0)⟩
 obtain ⟨u, w', hrun, hl, hsl⟩ := hrun
 unfold Oper.wp
 simp [execOp, ho, resolve, invoke, builtin, hs, hx, hrun, Result.andThen]
 obtain ⟨A', c', rfl, _, _, hrd⟩ := hsl.rd
 exact hK' _ _ (hK A' c' w' hrd hl)
theorem tr_parts (q : Rng × List Int × Int) : ∃ tl th p te, q = ((⟨tl, th⟩ : Rng), p, te) := by
 obtain ⟨⟨a, b⟩, c, d⟩ := q
 exact ⟨a, b, c, d, rfl⟩
theorem md_parts (q : Int × Int × Int) : ∃ a b c, q = (a, b, c) := ⟨q.1, q.2.1, q.2.2, rfl⟩
theorem gag9_info : (Try.prog.info? 108).map (fun i => (i.zero, i.size, i.bytes)) = some (some (.agg #[I 0, I 0, I 0, I 0, I 0, I 0]), 6, 48) := by kernel_rfl
theorem SlAm.at9 {B0 sz n c : Nat} {A : Option Addr} {g : Nat → Nat → Value} {w : World} (h : SlAm B0 sz n g (.slice A n c) w) : Rd w w.heap.size sz A n g := by
 obtain ⟨A', c', hu, _, hr, _⟩ := h
 injection hu with e1 e2 e3
 subst e1
 exact hr
def TrAt9 (tl th : Int) (p : List Int) (te : Int) (u : Value) (w : World) : Prop := ∃ A c, u = .tuple #[.agg #[I tl, I th], .slice A p.length c, I te] ∧ RdY w 3 1 A p.length (rI p)
theorem RdY.later {w w' : World} {e : TypeId} {sz n : Nat} {A : Option Addr} {g : Nat → Nat → Value} (h : RdY w e sz A n g) (hb : Below w.heap.size w w') : RdY w' e sz A n g :=
 ⟨(h.1.below hb).more hb.size, fun h0 => by
   obtain ⟨b, o, cs, fr, hA, hr⟩ := h.2 h0
   exact ⟨b, o, cs, fr, hA, (hb.block b (lt_of_row hr)).trans hr⟩⟩
theorem RdY.set {w : World} {e t : TypeId} {sz n p : Nat} {A : Option Addr} {g : Nat → Nat → Value} {cs0 : Array Value} {fr0 : Nat × Nat} (h : RdY w e sz A n g) (hp : w.heap[p]? = some (.cells cs0 t fr0)) (ht : t ≠ e) (cs' : Array Value) : RdY (w.setRow p cs') e sz A n g := by
 rcases Nat.eq_zero_or_pos n with h0 | h0
 · subst h0; exact RdY.nil
 obtain ⟨b, o, cs, fr, hA, hr⟩ := h.2 h0
 have hne : b ≠ p := by
  rintro rfl
  rw [hp] at hr
  injection hr with hr
  injection hr with _ e
  exact ht e
 refine ⟨fun _ => ?_, fun _ => ⟨b, o, cs, fr, hA, (setRow_other hne).trans hr⟩⟩
 obtain ⟨b', o', hA', hlt, hc⟩ := h.1 h0
 obtain ⟨rfl, rfl⟩ : b' = b ∧ o' = o := by
  rw [hA] at hA'
  injection hA' with e1
  injection e1 with e1 e2
  exact ⟨e1.symm, e2.symm⟩
 refine ⟨b', o', hA', by rw [setRow_size]; exact hlt, fun k hk j hj => ?_⟩
 rw [← hc k hk j hj]
 unfold World.cell?
 rw [setRow_other hne]
theorem tr_grow {P : Program} {f : FuncId} {args : Array Value} {w : World} {tl th : Int} {p : List Int} {te : Int} (h : Calls P f args w (RetTy w (⟨tl, th⟩, p, te))) : Calls P f args w fun e w' => ∃ u, e = .returned u ∧ Le w w' ∧ Box (TrAt9 tl th p te) u w' :=
 h.mono fun _ _ ⟨A, c, he, _, _, hr, hb⟩ => ⟨_, he, hb, fun _ hl => ⟨A, c, rfl, hr.later hl⟩⟩
theorem TrAt9.at {tl th te : Int} {p : List Int} {A : Option Addr} {c : Nat} {w : World} (h : TrAt9 tl th p te (.tuple #[.agg #[I tl, I th], .slice A p.length c, I te]) w) : RdY w 3 1 A p.length (rI p) := by
 obtain ⟨A', c', hu, hr⟩ := h
 have e : A = A' := by simp at hu; exact hu.1
 subst e
 exact hr
theorem trF_len (l : List Gag) (g day : Int) (x : Rng) : (trF l g day x).2.1.length ≤ 31 := by
 unfold trF
 rcases ho : okGag l with _ | _
 · simp
 · split
   · split
     · simp
     · split
       · simp
       · split
         · simp only
           have h1 := pth_len l (g.toNat + 1) g
           have h2 := okGag_len ho
           unfold path9
           omega
         · simp
   · simp
end Go.Proofs.Ytljjpidigckheaa.Un
