/- What the rows through chapters 5 and 9 share: copies of lists, readings, flat, point, at. -/
import Derived.Test.YtliolnfcgaflcaaGreatDt1
import Derived.Test.YtliolnfcgaflcaaGreatTt
import Derived.Test.YtliolnfcgaflcaaGreatKh
namespace Go.Proofs.YtliolnfcgaflcaaGreat.Un
open Go.RowKit
theorem rgs_ok {m : Mdl} {r g : Rng} (h : (rgsF m r g).2 = 0) : PlOk m r g ∧ rgsF m r g = (regK (posB m r g) 5, 0) := by
 unfold rgsF at h ⊢
 split at h
 · rename_i hc
   rw [Bool.and_eq_true, Bool.and_eq_true] at hc
   exact ⟨⟨hc.1, hc.2.1, hc.2.2⟩, if_pos (by rw [hc.1, hc.2.1, hc.2.2]; rfl)⟩
 · cases h
theorem rgs_no {m : Mdl} {r g : Rng} (h : ¬ (rgsF m r g).2 = 0) : rgsF m r g = (0, 2) := by
 unfold rgsF at h ⊢
 split at h
 · exact absurd rfl h
 · rename_i hc
   exact if_neg hc
theorem rgs_pl {m : Mdl} {r g : Rng} (h : PlOk m r g) : rgsF m r g = (regK (posB m r g) 5, 0) := if_pos (by rw [h.m, h.r, h.g]; rfl)
def atP (r : Rng) (b : Int) : Int := r.lo + ((r.hi - r.lo) * b).tdiv 255
theorem atP_in {r : Rng} {b : Int} (h : r.lo ≤ r.hi) (hb : 0 ≤ b ∧ b ≤ 255) : r.lo ≤ atP r b ∧ atP r b ≤ r.hi := by
 have h1 : 0 ≤ (r.hi - r.lo) * b := Int.mul_nonneg (by omega) hb.1
 have h2 : (r.hi - r.lo) * b ≤ (r.hi - r.lo) * 255 := Int.mul_le_mul_of_nonneg_left hb.2 (by omega)
 unfold atP
 rw [Int.tdiv_eq_ediv_of_nonneg h1]
 omega
theorem sub_ok {m : Mdl} {v w g : Rng} (h : PlOk m v g) (hs : Sub w v) : PlOk m w g := by
 obtain ⟨h1, h2, h3⟩ := spanB_iff.1 h.r
 obtain ⟨a, b, c⟩ := hs
 exact ⟨h.m, spanB_iff.2 (by omega), h.g⟩
theorem sub_not {m : Mdl} {v w g : Rng} (h : PlOk m v g) (hs : Sub w v) : bits .andNot .u8 (regK (posB m w g) 5) (regK (posB m v g) 5) = 0 := by
 obtain ⟨h1, h2, h3⟩ := spanB_iff.1 h.r
 obtain ⟨k1, k2, k3⟩ := spanB_iff.1 h.g
 obtain ⟨a, b, c⟩ := hs
 exact not_reg fun k hk hp => posB_mono h.m hk (by omega) (by omega) hp
theorem reg_some {m : Mdl} {n : Int} {g : Rng} (h : PlOk m ⟨n, n⟩ g) : regK (posB m ⟨n, n⟩ g) 5 ≠ 0 := by
 obtain ⟨h1, h2, h3⟩ := spanB_iff.1 h.r
 obtain ⟨k1, k2, k3⟩ := spanB_iff.1 h.g
 simp only at h1 h2 h3
 obtain ⟨k, hk, _, hp⟩ := rg_pos h.m (t := fun _ => 0) (fun _ => Int.le_refl _) (v := n) (g := g.lo) ⟨h1, h3⟩ ⟨k1, by omega⟩
 have hq := posB_mono h.m hk (r := ⟨n, n⟩) (g := g) (r' := ⟨n, n⟩) (g' := ⟨g.lo, g.lo⟩) (by simp only; omega) (by simp only; omega) hp
 intro h0
 have hb := bit_reg (posB m ⟨n, n⟩ g) hk
 rw [hq, if_pos rfl, h0, Int.zero_ediv] at hb
 revert hb
 decide
end Go.Proofs.YtliolnfcgaflcaaGreat.Un
namespace Go.Proofs.YtliolnfcgaflcaaGreat.Un
open Go.RowKit
def SlAm (B0 sz n : Nat) (g : Nat → Nat → Value) (u : Value) (w : World) : Prop := ∃ A c, u = .slice A n c ∧ (n ≤ c ∧ c ≤ maxLen) ∧ Rd w w.heap.size sz A n g ∧ (0 < n → ∃ b o, A = some ⟨b, o, none⟩ ∧ B0 ≤ b)
theorem SlAm.box {B0 sz n : Nat} {g : Nat → Nat → Value} {u : Value} {w : World} (h : SlAm B0 sz n g u w) : Box (SlAm B0 sz n g) u w := fun w' hl => by
 obtain ⟨A, c, hu, hn, hr, hb⟩ := h
 exact ⟨A, c, hu, hn, (hr.below hl).more hl.size, hb⟩
theorem SlAm.set {B0 sz n c : Nat} {A : Option Addr} {g : Nat → Nat → Value} {w : World} (h : SlAm B0 sz n g (.slice A n c) w) {q : Nat} (hq : q < B0) (cs : Array Value) : (n ≤ c ∧ c ≤ maxLen) ∧ Rd (w.setRow q cs) (w.setRow q cs).heap.size sz A n g := by
 obtain ⟨A', c', hu, hn, hr, hb⟩ := h
 injection hu with e1 e2 e3
 subst e1 e3
 refine ⟨hn, fun h0 => ?_⟩
 obtain ⟨b, o, hA, hlt, hc⟩ := hr h0
 obtain ⟨b2, o2, hA2, hB⟩ := hb h0
 have hbb : b = b2 := by rw [hA] at hA2; injection hA2 with e; injection e
 subst hbb
 refine ⟨b, o, hA, by rw [setRow_size]; exact hlt, fun k hk j hj => ?_⟩
 rw [← hc k hk j hj]
 unfold World.cell?
 rw [setRow_other (show b ≠ q by omega)]
theorem app_growM {P : Program} {o : Oper} {a : Act} {w : World} (s x : Operand) (t : TypeId) (ho : o.op = .call { callee := .builtin .append, args := #[s, x], argTypes := #[t, t] })
 (e : TypeId) (i : TypeInfo) (z : Value) (sz bytes : Nat) (ht : P.underlying t = some (.slice e)) (hi : P.info? e = some i) (hz : i.zero = some z) (hsz : i.size = sz) (hby : i.bytes = bytes) (hzs : z.cells.size = sz) (h0 : 0 < sz)
 (b : Nat) (hs : a.eval s = .slice (some ⟨b, 0, none⟩) 0 0) (A : Option Addr) (n c : Nat) (hx : a.eval x = .slice A n c) (g : Nat → Nat → Value) (hr : Rd w w.heap.size sz A n g) (hn : n ≤ 1000000) (hb : bytes ≤ 1000000) {B0 : Nat} (hB0 : B0 ≤ w.heap.size) :
 Oper.grows P o a w (SlAm B0 sz n g) := by
 have hrun : ∃ u w', (Builtin.append_ #[t, t] o.type #[.slice (some ⟨b, 0, none⟩) 0 0, .slice A n c]).run P w = .ok u w' ∧ Le w w' ∧ SlAm B0 sz n g u w' := by
  by_cases hn0 : n = 0
  · subst hn0
    refine ⟨.slice (some ⟨b, 0, none⟩) 0 0, w, ?_, Le.refl w, ⟨_, _, rfl, ⟨Nat.le_refl _, Nat.zero_le _⟩, Rd.nil, fun h => absurd h (by omega)⟩⟩
    cases A <;> simp [go_sem, Builtin.append_, run_underlying ht, sizeOf, typeInfo, hi, Builtin.lenOf, Builtin.firstCells, storeCells]
  · obtain ⟨b2, o2, hA, _, hc⟩ := hr (by omega)
    subst hA
    have hm : n * bytes ≤ 1000000 * 1000000 := Nat.mul_le_mul hn hb
    obtain ⟨v', w', hrun, hown, hgr⟩ := run_append_arg_grows (P := P) w t o.type e i z sz bytes ht hi hz hsz hby hzs h0 ⟨b, 0, none⟩ 0 0 [] (by simp) (fun j u hu => by simp at hu) ⟨b2, o2, none⟩ n c (flat sz g n) (flat_len _ _ _) (Rd.flat_at hc h0) (by omega) (by unfold maxLen; omega) (by rw [Nat.zero_add]; omega)
    rw [Nat.zero_add, List.nil_append] at hown
    obtain ⟨A', c', hv, hnc, hrd⟩ := Rd.of_own_cap hown
    have hcm : c' ≤ maxLen := by
        rcases hown.2 with ⟨hq, _⟩ | ⟨q, cap, cur, hq, hqb, _, _, hm2, _⟩
        · rw [hv] at hq; injection hq with e1 e2 e3; rw [e3]; exact Nat.zero_le _
        · rw [hv] at hq; injection hq with e1 e2 e3; rw [e3]; exact hm2
    refine ⟨v', w', hrun, (Below.refl _ _).grown hgr (Nat.le_refl _) (fun g hg => by cases hg), A', c', hv, ⟨hnc, hcm⟩, hrd, fun _ => ?_⟩
    rcases hown.2 with ⟨hq, _⟩ | ⟨q, cap, cur, hq, hqb, _⟩
    · rw [hv] at hq; injection hq with e1 e2 e3; omega
    · rw [hv] at hq; injection hq with e1 e2 e3
      exact ⟨q, 0, e1, by omega⟩
 obtain ⟨u, w', hrun, hl, hsl⟩ := hrun
 unfold Oper.grows
 have he : (execOp a.eval o).run P w = .ok (.value u) w' := by
  simp [execOp, ho, resolve, invoke, builtin, hs, hx, hrun, Result.andThen]
 rw [he]
 exact ⟨hl, hsl.box⟩
theorem nc_new {w : World} {o : Obj} : Below w.heap.size w (w.alloc o) := (Below.refl _ _).alloc (Nat.le_refl _) o
theorem nc_one {X w' : World} {o : Obj} (h : Below (X.alloc o).heap.size (X.alloc o) w') : Below X.heap.size X w' := nc_new.trans (h.mono (by simp))
theorem nc_I {w : World} {b : Nat} {cs : Array Value} {t : TypeId} {xs : List Int} (h : w.heap[b]? = some (.cells cs t (0, 0))) (hc : cs.toList = flat 1 (rI xs) xs.length) : Rd w w.heap.size 1 (some ⟨b, 0, none⟩) xs.length (rI xs) := fun _ => by
 refine ⟨b, 0, rfl, (Array.getElem?_eq_some_iff.1 h).1, fun k hk j hj => ?_⟩
 rw [cell_of_row _ _ _ _ _ _ h, ← Array.getElem?_toList, hc, show 0 + k * 1 + j = k * 1 + j by omega, flat_get _ hk hj]
theorem StL.nil (w : World) : StL w [] w := ⟨Below.refl _ _, fun x hx => by cases hx⟩
theorem StL.put {w V : World} {L : List (Nat × Array Value × TypeId)} (h : StL w L V) (cs cs' : Array Value) (t : TypeId) : StL w ((V.heap.size, cs', t) :: L) ((V.alloc (.cells cs t)).setRow V.heap.size cs') :=
 StL.cons ⟨below_setRow (h.1.trans (nc_new.mono h.1.size)) h.1.size _, fun x hx => (setRow_other (Nat.ne_of_lt (lt_of_row (h.2 x hx)))).trans ((nc_new.block _ (lt_of_row (h.2 x hx))).trans (h.2 x hx))⟩ (setRow_same (heap_last _ _ _ rfl))
theorem put_bel (w : World) (cs cs' : Array Value) (t : TypeId) : Below w.heap.size w ((w.alloc (.cells cs t)).setRow w.heap.size cs') := below_setRow nc_new (Nat.le_refl _) _
theorem StL.hd {w V : World} {L : List (Nat × Array Value × TypeId)} {b : Nat} {cs : Array Value} {t : TypeId} (h : StL w ((b, cs, t) :: L) V) : V.heap[b]? = some (.cells cs t (0, 0)) := h.2 _ (.head _)
theorem StL.rd {w V : World} {L : List (Nat × Array Value × TypeId)} {B sz n : Nat} {A : Option Addr} {g : Nat → Nat → Value} (h : StL w L V) (hB : B ≤ w.heap.size) (hx : Rd w B sz A n g) : Rd V B sz A n g ∧ B ≤ V.heap.size := ⟨hx.below (h.1.mono hB), Nat.le_trans hB h.1.size⟩
theorem StL.nth {w V : World} {L : List (Nat × Array Value × TypeId)} {b : Nat} {cs : Array Value} {t : TypeId} (h : StL w L V) (i : Nat) (hi : L[i]? = some (b, cs, t)) : V.heap[b]? = some (.cells cs t (0, 0)) := h.2 _ (List.mem_of_getElem? hi)
theorem wpList_app_litM {P : Program} {ops : Array Oper} {rest : List Oper} {o : Oper} {a : Act} {w : World} {Q : Exit → Act → World → Prop} (hg : o.guard = none) (s x : Operand) (t : TypeId) (ho : o.op = .call { callee := .builtin .append, args := #[s, x], argTypes := #[t, t] })
 (e : TypeId) (i : TypeInfo) (z : Value) (sz bytes : Nat) (ht : P.underlying t = some (.slice e)) (hi : P.info? e = some i) (hz : i.zero = some z) (hsz : i.size = sz) (hby : i.bytes = bytes) (hzs : z.cells.size = sz) (h0 : 0 < sz)
 (b : Nat) (hs : a.eval s = .slice (some ⟨b, 0, none⟩) 0 0) (A : Option Addr) (n c : Nat) (hx : a.eval x = .slice A n c) (g : Nat → Nat → Value) (hr : Rd w w.heap.size sz A n g) (hn : n ≤ 1000000) (hb : bytes ≤ 1000000) (B0 : Nat) (hB0 : B0 ≤ w.heap.size)
 (hK : ∀ A' c' w', Rd w' w'.heap.size sz A' n g → Below w.heap.size w w' → wpList P ops Q rest (a.put o.dst (.slice A' n c')) w') : wpList P ops Q (o :: rest) a w := by
 refine wpList_plain hg fun K hK' => ?_
 have hrun : ∃ u w', (Builtin.append_ #[t, t] o.type #[.slice (some ⟨b, 0, none⟩) 0 0, .slice A n c]).run P w = .ok u w' ∧ Below w.heap.size w w' ∧ SoC e sz B0 n (flat sz g n) u w' := by
  by_cases hn0 : n = 0
  · subst hn0
    refine ⟨.slice (some ⟨b, 0, none⟩) 0 0, w, ?_, Below.refl _ w, .inl ⟨rfl, by simp [flat], _, rfl⟩⟩
    cases A <;> simp [go_sem, Builtin.append_, run_underlying ht, sizeOf, typeInfo, hi, Builtin.lenOf, Builtin.firstCells, storeCells]
  · obtain ⟨b2, o2, hA, _, hc⟩ := hr (by omega)
    subst hA
    have hm : n * bytes ≤ 1000000 * 1000000 := Nat.mul_le_mul hn hb
    obtain ⟨v', w', hrun, hown, hgr⟩ := run_append_arg_grows (P := P) w t o.type e i z sz bytes ht hi hz hsz hby hzs h0 ⟨b, 0, none⟩ 0 0 [] (by simp) (fun j u hu => by simp at hu) ⟨b2, o2, none⟩ n c (flat sz g n) (flat_len _ _ _) (Rd.flat_at hc h0) (by omega) (by unfold maxLen; omega) (by rw [Nat.zero_add]; omega)
    rw [Nat.zero_add, List.nil_append] at hown
    exact ⟨v', w', hrun, (Below.refl _ _).grown hgr (Nat.le_refl _) (fun g hg => by cases hg), .inr (own_base hown hB0)⟩
 obtain ⟨u, w', hrun, hl, hsl⟩ := hrun
 unfold Oper.wp
 simp [execOp, ho, resolve, invoke, builtin, hs, hx, hrun, Result.andThen]
 obtain ⟨A', c', rfl, _, _, hrd⟩ := hsl.rd
 exact hK' _ _ (hK A' c' w' hrd hl)
theorem tr_parts (q : Rng × List Int × Int) : ∃ tl th p te, q = ((⟨tl, th⟩ : Rng), p, te) := by
 obtain ⟨⟨a, b⟩, c, d⟩ := q
 exact ⟨a, b, c, d, rfl⟩
theorem md_parts (q : Int × Int × Int) : ∃ a b c, q = (a, b, c) := ⟨q.1, q.2.1, q.2.2, rfl⟩
theorem gag9_info : (Tryz.prog.info? 71).map (fun i => (i.zero, i.size, i.bytes)) = some (some (.agg #[I 0, I 0, I 0, I 0, I 0, I 0]), 6, 48) := by kernel_rfl
theorem SlAm.at9 {B0 sz n c : Nat} {A : Option Addr} {g : Nat → Nat → Value} {w : World} (h : SlAm B0 sz n g (.slice A n c) w) : Rd w w.heap.size sz A n g := by
 obtain ⟨A', c', hu, _, hr, _⟩ := h
 injection hu with e1 e2 e3
 subst e1
 exact hr
def TrAt9 (tl th : Int) (p : List Int) (te : Int) (u : Value) (w : World) : Prop := ∃ A c, u = .tuple #[.agg #[I tl, I th], .slice A p.length c, I te] ∧ RdY w 3 1 A p.length (rI p)
theorem RdY.later {w w' : World} {e : TypeId} {sz n : Nat} {A : Option Addr} {g : Nat → Nat → Value} (h : RdY w e sz A n g) (hb : Below w.heap.size w w') : RdY w' e sz A n g :=
 ⟨(h.1.below hb).more hb.size, fun h0 => by
   obtain ⟨b, o, cs, fr, hA, hr⟩ := h.2 h0
   exact ⟨b, o, cs, fr, hA, (hb.block b (lt_of_row hr)).trans hr⟩⟩
theorem RdY.set {w : World} {e t : TypeId} {sz n p : Nat} {A : Option Addr} {g : Nat → Nat → Value} {cs0 : Array Value} {fr0 : Nat × Nat} (h : RdY w e sz A n g) (hp : w.heap[p]? = some (.cells cs0 t fr0)) (ht : t ≠ e) (cs' : Array Value) : RdY (w.setRow p cs') e sz A n g := by
 rcases Nat.eq_zero_or_pos n with h0 | h0
 · subst h0; exact RdY.nil
 obtain ⟨b, o, cs, fr, hA, hr⟩ := h.2 h0
 have hne : b ≠ p := by
  rintro rfl
  rw [hp] at hr
  injection hr with hr
  injection hr with _ e
  exact ht e
 refine ⟨fun _ => ?_, fun _ => ⟨b, o, cs, fr, hA, (setRow_other hne).trans hr⟩⟩
 obtain ⟨b', o', hA', hlt, hc⟩ := h.1 h0
 obtain ⟨rfl, rfl⟩ : b' = b ∧ o' = o := by
  rw [hA] at hA'
  injection hA' with e1
  injection e1 with e1 e2
  exact ⟨e1.symm, e2.symm⟩
 refine ⟨b', o', hA', by rw [setRow_size]; exact hlt, fun k hk j hj => ?_⟩
 rw [← hc k hk j hj]
 unfold World.cell?
 rw [setRow_other hne]
theorem tr_grow {P : Program} {f : FuncId} {args : Array Value} {w : World} {tl th : Int} {p : List Int} {te : Int} (h : Calls P f args w (RetTy w (⟨tl, th⟩, p, te))) : Calls P f args w fun e w' => ∃ u, e = .returned u ∧ Le w w' ∧ Box (TrAt9 tl th p te) u w' :=
 h.mono fun _ _ ⟨A, c, he, _, _, hr, hb⟩ => ⟨_, he, hb, fun _ hl => ⟨A, c, rfl, hr.later hl⟩⟩
theorem TrAt9.at {tl th te : Int} {p : List Int} {A : Option Addr} {c : Nat} {w : World} (h : TrAt9 tl th p te (.tuple #[.agg #[I tl, I th], .slice A p.length c, I te]) w) : RdY w 3 1 A p.length (rI p) := by
 obtain ⟨A', c', hu, hr⟩ := h
 have e : A = A' := by simp at hu; exact hu.1
 subst e
 exact hr
theorem trF_len (l : List Gag) (g day : Int) (x : Rng) : (trF l g day x).2.1.length ≤ 31 := by
 unfold trF
 rcases ho : okGag l with _ | _
 · simp
 · split
   · split
     · simp
     · split
       · simp
       · split
         · simp only
           have h1 := pth_len l (g.toNat + 1) g
           have h2 := okGag_len ho
           unfold path9
           omega
         · simp
   · simp
theorem trF_no {l : List Gag} {g day : Int} {x : Rng} (h : (trF l g day x).2.2 ≠ 0) : (trF l g day x).1 = ⟨0, 0⟩ ∧ (trF l g day x).2.1 = [] := by
 unfold trF at h ⊢
 split at h
 · rename_i h1
   rw [if_pos h1]
   split at h
   · rename_i h2
     rw [if_pos h2]
     exact ⟨rfl, rfl⟩
   · rename_i h2
     rw [if_neg h2]
     split at h
     · rename_i h3
       rw [if_pos h3]
       exact ⟨rfl, rfl⟩
     · rename_i h3
       rw [if_neg h3]
       split at h
       · exact absurd rfl h
       · rename_i h4
         rw [if_neg h4]
         exact ⟨rfl, rfl⟩
 · rename_i h1
   rw [if_neg h1]
   exact ⟨rfl, rfl⟩
def bsZ : List Int := [0, 0, 0, 4]
set_option maxRecDepth 100000 in
theorem ex_bo : okSh (bsX 2 2 bsZ) = true := by kernel_rfl
set_option maxRecDepth 100000 in
theorem ex_bd : ds9 (fl9 (gridL 2 4) (ex9 (at0 bsZ)) true) = ⟨1, 1⟩ := by kernel_rfl
set_option maxRecDepth 100000 in
set_option maxHeartbeats 2000000 in
theorem at_any (r : Rng) (b : Int) (w : World) (hr : -1000000000000000 ≤ r.lo ∧ r.lo ≤ r.hi ∧ r.hi ≤ 1000000000000000) (hb : 0 ≤ b ∧ b ≤ 255) :
 Calls Tryz.prog 10 #[.agg #[I r.lo, I r.hi], .int .u8 b] w fun e w' => e = .returned (I (atP r b)) ∧ Below w.heap.size w w' := by
 have h1 : 0 ≤ (r.hi - r.lo) * b := Int.mul_nonneg (by omega) hb.1
 have h2 : (r.hi - r.lo) * b ≤ (r.hi - r.lo) * 255 := Int.mul_le_mul_of_nonneg_left hb.2 (by omega)
 obtain ⟨m, hm⟩ : ∃ m, (r.hi - r.lo) * b = m := ⟨_, rfl⟩
 rw [hm] at h1 h2
 obtain ⟨q, hq⟩ : ∃ q, m.tdiv 255 = q := ⟨_, rfl⟩
 have hq2 : m / 255 = q := by rw [← hq, Int.tdiv_eq_ediv_of_nonneg h1]
 have HF : Hid (atP r b = r.lo + q) := by show _ = _; unfold atP; rw [hm, hq]
 have k0 : IntKind.i64.wrap b = b := IntWalk.i64_in _ (by omega)
 have k1 : IntKind.i64.wrap (r.hi - r.lo) = r.hi - r.lo := IntWalk.i64_in _ (by omega)
 have k2 : IntKind.i64.wrap ((r.hi - r.lo) * b) = m := (congrArg _ hm).trans (IntWalk.i64_in _ (by omega))
 have k3 : IntKind.i64.wrap (r.lo + q) = r.lo + q := IntWalk.i64_in _ (by omega)
 have k4 : wrap64 q = q := by unfold wrap64; omega
 have k5 : IntKind.i64.wrap q = q := IntWalk.i64_in _ (by omega)
 clear hm h1 h2
 obtain ⟨W, hW⟩ : ∃ W, W = (w.alloc (.cells #[I r.lo, I r.hi] 24)) := ⟨_, rfl⟩
 have rowW0 : W.heap[w.heap.size]? = some (.cells #[I r.lo, I r.hi] 24 (0, 0)) := by rw [hW]; exact heap_last _ _ _ rfl
 have yW00 := ovr_cell (W := W) (b := w.heap.size) (o := 0) (v := I r.lo) (by rw [cell_of_row _ _ _ _ _ _ rowW0]; rfl)
 have yW01 := ovr_cell (W := W) (b := w.heap.size) (o := 1) (v := I r.hi) (by rw [cell_of_row _ _ _ _ _ _ rowW0]; rfl)
 have RrowW0 := Lib.hid (ovr_row rowW0)
 clear rowW0
 have HUW : Hid (∀ u, Below w.heap.size w (ovr W u)) := U1 hW
 have HW := Lib.hid hW
 clear hW
 go_enter Tryz.func10, Tryz.ntmps10
 go_upto_region 1 with (fail)
 rw [← HW.out]
 obtain ⟨u0, hu0⟩ := ovr_self W
 rw [hu0]
 clear hu0
 go_wp2_with fail
 go_ret
 exact ⟨by rw [HF.out]; rfl, HUW.out u0⟩
abbrev rdA (g day : Int) (x q : Rng) (b : Int) : Array Value := #[I g, I day, I x.lo, I x.hi, I q.lo, I q.hi, .int .u8 b]
def ptB (r : Rng) : Bool := spanB r 0 1000000
set_option maxRecDepth 100000 in
set_option maxHeartbeats 2000000 in
theorem point_any (r : Rng) (b : Int) (w : World) (hb : 0 ≤ b ∧ b ≤ 255) :
 Calls Tryz.prog 7 #[.agg #[I r.lo, I r.hi], .int .u8 b] w fun e w' => e = .returned (.tuple #[.agg (if ptB r then #[I (atP r b), I (atP r b)] else #[I 0, I 0]), .bool (ptB r)]) ∧ Below w.heap.size w w' := by
 by_cases h : 0 ≤ r.lo ∧ r.hi ≤ 1000000 ∧ r.lo ≤ r.hi
 case neg =>
  have hp : ptB r = false := by
   cases hq : ptB r with
   | false => rfl
   | true => exact absurd (spanB_iff.1 hq) (by omega)
  rw [hp]
  obtain ⟨W, hW⟩ : ∃ W, W = ((w.alloc (.cells #[I r.lo, I r.hi] 24)).alloc (.cells #[I 0, I 0] 24)) := ⟨_, rfl⟩
  have rowW0 : W.heap[w.heap.size]? = some (.cells #[I r.lo, I r.hi] 24 (0, 0)) := by rw [hW]; exact heap_before (heap_last _ _ _ rfl)
  have yW00 := ovr_cell (W := W) (b := w.heap.size) (o := 0) (v := I r.lo) (by rw [cell_of_row _ _ _ _ _ _ rowW0]; rfl)
  have yW01 := ovr_cell (W := W) (b := w.heap.size) (o := 1) (v := I r.hi) (by rw [cell_of_row _ _ _ _ _ _ rowW0]; rfl)
  have RrowW0 := Lib.hid (ovr_row rowW0)
  clear rowW0
  have rowW1 : W.heap[w.heap.size + 1]? = some (.cells #[I 0, I 0] 24 (0, 0)) := by rw [hW]; exact heap_last _ _ _ (by simp)
  have yW10 := ovr_cell (W := W) (b := w.heap.size + 1) (o := 0) (v := I 0) (by rw [cell_of_row _ _ _ _ _ _ rowW1]; rfl)
  have yW11 := ovr_cell (W := W) (b := w.heap.size + 1) (o := 1) (v := I 0) (by rw [cell_of_row _ _ _ _ _ _ rowW1]; rfl)
  have RrowW1 := Lib.hid (ovr_row rowW1)
  clear rowW1
  have HUW : Hid (∀ u, Below w.heap.size w (ovr W u)) := U2 hW
  have HW := Lib.hid hW
  clear hW
  go_enter Tryz.func7, Tryz.ntmps7
  go_upto_region 1 with (fail)
  rw [← HW.out]
  obtain ⟨u0, hu0⟩ := ovr_self W
  rw [hu0]
  clear hu0
  by_cases h1 : 0 ≤ r.lo
  case neg =>
   have d1 : decide (r.lo < 0) = true := decide_eq_true (by omega)
   clear h h1
   go_wp2_with (with_reducible show wpList _ _ _ _ _ _; refine wpList_store_row rfl 24 _ _ rfl (w.heap.size + 1) rfl _ _ (RrowW1.out u0) #[I 0, I 0] rfl (by simp [Value.oneCell']) rfl (by kernel_rfl) ?_)
   refine bodyPost_ret (results_cell_tmp rfl _ _ (w.heap.size + 1) 24 _ (0, 0) _ rfl (setRow_same (RrowW1.out u0)) Tryz.underlying24 rfl (by kernel_rfl)) rfl ?_
   exact ⟨rfl, below_setRow (HUW.out _) (Nat.le_succ _) _⟩
  have d1 : decide (r.lo < 0) = false := decide_eq_false (by omega)
  by_cases h2 : r.hi ≤ 1000000
  case neg =>
   have d2 : decide (1000000 < r.hi) = true := decide_eq_true (by omega)
   clear h h1 h2
   go_wp2_with (with_reducible show wpList _ _ _ _ _ _; refine wpList_store_row rfl 24 _ _ rfl (w.heap.size + 1) rfl _ _ (RrowW1.out u0) #[I 0, I 0] rfl (by simp [Value.oneCell']) rfl (by kernel_rfl) ?_)
   refine bodyPost_ret (results_cell_tmp rfl _ _ (w.heap.size + 1) 24 _ (0, 0) _ rfl (setRow_same (RrowW1.out u0)) Tryz.underlying24 rfl (by kernel_rfl)) rfl ?_
   exact ⟨rfl, below_setRow (HUW.out _) (Nat.le_succ _) _⟩
  have d2 : decide (1000000 < r.hi) = false := decide_eq_false (by omega)
  have d3 : decide (r.hi < r.lo) = true := decide_eq_true (by omega)
  clear h h1 h2
  go_wp2_with (with_reducible show wpList _ _ _ _ _ _; refine wpList_store_row rfl 24 _ _ rfl (w.heap.size + 1) rfl _ _ (RrowW1.out u0) #[I 0, I 0] rfl (by simp [Value.oneCell']) rfl (by kernel_rfl) ?_)
  refine bodyPost_ret (results_cell_tmp rfl _ _ (w.heap.size + 1) 24 _ (0, 0) _ rfl (setRow_same (RrowW1.out u0)) Tryz.underlying24 rfl (by kernel_rfl)) rfl ?_
  exact ⟨rfl, below_setRow (HUW.out _) (Nat.le_succ _) _⟩
 have hp : ptB r = true := spanB_iff.2 (by omega)
 rw [hp]
 have CA := Lib.hid fun V => at_any r b V (by omega) hb
 have d1 : decide (r.lo < 0) = false := decide_eq_false (by omega)
 have d2 : decide (1000000 < r.hi) = false := decide_eq_false (by omega)
 have d3 : decide (r.hi < r.lo) = false := decide_eq_false (by omega)
 clear h hb hp
 obtain ⟨W, hW⟩ : ∃ W, W = ((w.alloc (.cells #[I r.lo, I r.hi] 24)).alloc (.cells #[I 0, I 0] 24)) := ⟨_, rfl⟩
 have rowW0 : W.heap[w.heap.size]? = some (.cells #[I r.lo, I r.hi] 24 (0, 0)) := by rw [hW]; exact heap_before (heap_last _ _ _ rfl)
 have yW00 := ovr_cell (W := W) (b := w.heap.size) (o := 0) (v := I r.lo) (by rw [cell_of_row _ _ _ _ _ _ rowW0]; rfl)
 have yW01 := ovr_cell (W := W) (b := w.heap.size) (o := 1) (v := I r.hi) (by rw [cell_of_row _ _ _ _ _ _ rowW0]; rfl)
 have RrowW0 := Lib.hid (ovr_row rowW0)
 clear rowW0
 have rowW1 : W.heap[w.heap.size + 1]? = some (.cells #[I 0, I 0] 24 (0, 0)) := by rw [hW]; exact heap_last _ _ _ (by simp)
 have yW10 := ovr_cell (W := W) (b := w.heap.size + 1) (o := 0) (v := I 0) (by rw [cell_of_row _ _ _ _ _ _ rowW1]; rfl)
 have yW11 := ovr_cell (W := W) (b := w.heap.size + 1) (o := 1) (v := I 0) (by rw [cell_of_row _ _ _ _ _ _ rowW1]; rfl)
 have RrowW1 := Lib.hid (ovr_row rowW1)
 clear rowW1
 have HUW : Hid (∀ u, Below w.heap.size w (ovr W u)) := U2 hW
 have HW := Lib.hid hW
 clear hW
 go_enter Tryz.func7, Tryz.ntmps7
 go_upto_region 1 with (fail)
 rw [← HW.out]
 obtain ⟨u0, hu0⟩ := ovr_self W
 rw [hu0]
 clear hu0
 go_wp2_with fail
 refine (CA.out _).mono ?_
 rintro e w1 ⟨rfl, hb1⟩
 obtain ⟨u1, rfl⟩ := ovr_next hb1
 clear hb1
 go_wp2_with (with_reducible show wpList _ _ _ _ _ _; refine wpList_store_row rfl 24 _ _ rfl (w.heap.size + 1) rfl _ _ (RrowW1.out u1) #[I (atP r b), I (atP r b)] rfl (by simp [Value.oneCell']) rfl (by kernel_rfl) ?_)
 refine bodyPost_ret (results_cell_tmp rfl _ _ (w.heap.size + 1) 24 _ (0, 0) _ rfl (setRow_same (RrowW1.out u1)) Tryz.underlying24 rfl (by kernel_rfl)) rfl ?_
 exact ⟨rfl, below_setRow (HUW.out _) (Nat.le_succ _) _⟩
theorem kn_best (X : World) (k : Nat) (hk : X.heap.size = k) : Calls Tryz.prog 12 #[I 2, I 2, .slice (some ⟨k, 0, none⟩) 4 4] (X.alloc (.cells #[I 0, I 0, I 0, I 4] 3)) fun e w' => ∃ P : Pln, 0 < P.d ∧ e = .returned (.tuple #[.agg #[I P.a, I P.b, I P.c, I P.d, I 1, I 1], I 0]) ∧ Below X.heap.size X w' := by
 subst hk
 have hl : (X.alloc (.cells #[I 0, I 0, I 0, I 4] 3)).heap[X.heap.size]? = some (.cells #[I 0, I 0, I 0, I 4] 3 (0, 0)) := heap_last _ _ _ rfl
 refine (best_any 2 2 bsZ (some ⟨X.heap.size, 0, none⟩) 4 _ _ (by decide) (Nat.le_refl _) (nc_I hl rfl)).mono ?_
 rintro e w' ⟨⟨P, f, er, rfl, hP⟩, hb⟩
 rcases hP with ⟨_, rfl, hd, _, hf, _⟩ | ⟨h, _⟩
 · have hf' : f = ⟨1, 1⟩ := hf.trans ex_bd
   rw [hf']
   exact ⟨P, hd, rfl, nc_one hb⟩
 · rw [ex_bo] at h; cases h
set_option maxRecDepth 100000 in
set_option maxHeartbeats 2000000 in
theorem flat_top (w : World) : Calls Tryz.prog 5 #[] w fun e w' => e = .returned (.bool true) ∧ Below w.heap.size w w' := by
 have C1 := Lib.hid (kn_best w w.heap.size rfl)
 have S0 := Lib.hid (StL.nil w)
 go_enter Tryz.func5, Tryz.ntmps5
 go_wp2_with fail
 refine C1.out.mono ?_
 rintro e X ⟨P, hd, rfl, hb⟩
 have S1 := Lib.hid (S0.out.below hb)
 have HD := Lib.hid hd
 clear hb hd S0 C1
 go_upto_region 2 with (with_reducible show wpList _ _ _ _ _ _; refine wpList_store_row rfl 49 _ _ rfl X.heap.size rfl _ _ (heap_last _ _ _ rfl) #[I P.a, I P.b, I P.c, I P.d, I 1, I 1] rfl (by simp [Value.oneCell']) rfl (by kernel_rfl) ?_)
 have S2 := Lib.hid (S1.out.put #[I 0, I 0, I 0, I 0, I 0, I 0] #[I P.a, I P.b, I P.c, I P.d, I 1, I 1] 49)
 obtain ⟨PT, hPT⟩ : ∃ q, q = X.heap.size := ⟨_, rfl⟩
 refine name_w fun Y hY => ?_
 rw [← hY] at S2
 rw [← hPT] at S2 ⊢
 clear hY hPT S1
 have t3 : Y.cell? ⟨PT, 3, none⟩ = some (I P.d) := (cell_of_row _ _ 3 _ _ _ S2.out.hd).trans rfl
 have t4 : Y.cell? ⟨PT, 4, none⟩ = some (I 1) := (cell_of_row _ _ 4 _ _ _ S2.out.hd).trans rfl
 have t5 : Y.cell? ⟨PT, 5, none⟩ = some (I 1) := (cell_of_row _ _ 5 _ _ _ S2.out.hd).trans rfl
 have d1 : decide (1 ≤ P.d) = true := decide_eq_true (by have := HD.out; omega)
 go_wp2_with fail
 go_ret
 exact ⟨rfl, S2.out.1⟩
end Go.Proofs.YtliolnfcgaflcaaGreat.Un
