/- The contract of flat of package finish. -/
import Derived.Test.YtliolnfcgaflcaaGreatFop
import Derived.Test.YtliolnfcgaflcaaGreatRst
namespace Go.Proofs.YtliolnfcgaflcaaGreat.Un
open Go.RowKit
theorem wp_app_ownF {P : Program} {o : Oper} {a : Act} {w : World} {K : Act → World → Prop} {Q : Exit → Act → World → Prop} (s x : Operand) (t : TypeId) (ho : o.op = .call { callee := .builtin .append, args := #[s, x], argTypes := #[t, t] })
 (base : Nat) (e : TypeId) (i : TypeInfo) (z : Value) (size bytes : Nat) (ht : P.underlying t = some (.slice e)) (hi : P.info? e = some i) (hz : i.zero = some z) (hsize : i.size = size) (hby : i.bytes = bytes) (hzs : z.cells.size = size) (hsz : 0 < size)
 (v : Value) (n : Nat) (xs : List Value) (hs : a.eval s = v) (hown : w.ownsRow base e size v n xs) (ad : Addr) (c : Nat) (news : List Value) (hx : a.eval x = .slice (some ad) 1 c) (hl : news.length = size) (hnews : ∀ j u, news[j]? = some u → w.cell? (ad.add j) = some u) (h1 : ∀ u ∈ news, u.oneCell' = true)
 (hn : n ≤ 1000000) (hb : bytes ≤ 1000) (hbase : base ≤ w.heap.size)
 (h : ∀ v' w', w'.ownsRow base e size v' (n + 1) (xs ++ news) → w.grownBy w' v.ownBlock → (v'.ownBlock = v.ownBlock ∨ v'.ownBlock = some w.heap.size) → K (a.put o.dst v') w') : o.wp P a w K Q := by
 have hm : (n + 1) * bytes ≤ 1000001 * 1000 := Nat.mul_le_mul (by omega) hb
 obtain ⟨v', w', hr, h2, h3, h4, h5⟩ := run_append_own_at (P := P) w base t o.type e i z size bytes ht hi hz hsize hby hzs hsz v n xs hown ad 1 c news (by rw [hl, Nat.one_mul]) hnews h1 (by unfold maxLen; omega) (by omega) hbase
 unfold Oper.wp execOp
 simp only [ho, resolve, invoke, builtin, Sem.run_bind, Sem.run_pure, Result.andThen_ok, List.map_toArray, List.map_cons, List.map_nil, hs, hx, hr]
 exact h v' w' h2 h3 h5
theorem own_otherF {w w' : World} {base n sz : Nat} {e : TypeId} {v : Value} {xs : List Value} (h : w.ownsRow base e sz v n xs) {row : Option Nat} (hg : w.grownBy w' row) (hne : ∀ b, v.ownBlock = some b → row ≠ some b) : w'.ownsRow base e sz v n xs := by
 refine ⟨h.1, ?_⟩
 rcases h.2 with h1 | ⟨b, cap, cur, rfl, h1, h2, h3⟩
 · exact .inl h1
 · exact .inr ⟨b, cap, cur, rfl, h1, (hg.block b (Array.getElem?_eq_some_iff.1 h2).1 (fun he => hne b rfl he.symm)).trans h2, h3⟩
def ApartF (x y : Value) : Prop := ∀ b, y.ownBlock = some b → x.ownBlock ≠ some b
theorem ApartF.symm {x y : Value} (h : ApartF x y) : ApartF y x := fun b hb he => h b he hb
/-! What is told of a proof: its sites and weights that are not 0. -/
def atFF (p : Prf) : Nat → Int
 | 0 => (p.b.a.at_ : Int) | 1 => (p.b.b.at_ : Int) | 2 => (p.b.c.at_ : Int) | _ => (p.b.d.at_ : Int)
def wtF (p : Prf) : Nat → Int
 | 0 => p.b.w0 | 1 => p.b.w1 | 2 => p.b.w2 | _ => p.b.w3
def flKF (p : Prf) : Nat → List Int × List Int
 | 0 => ([], []) | k + 1 => if wtF p k = 0 then flKF p k else ((flKF p k).1 ++ [atFF p k], (flKF p k).2 ++ [wtF p k])
theorem flK_len (p : Prf) : ∀ k, (flKF p k).1.length ≤ k ∧ (flKF p k).2.length = (flKF p k).1.length
 | 0 => ⟨Nat.le_refl _, rfl⟩
 | k + 1 => by
   have := flK_len p k
   unfold flKF
   split
   · exact ⟨by omega, this.2⟩
   · simp only [List.length_append, List.length_cons, List.length_nil]
     omega
def flS (p : Prf) : List Int × List Int := if p.s then flKF p 4 else ([], [])
structure RetFl (w : World) (f : Frc) (l : List Int × List Int) (e : Ending) (w' : World) : Prop where
 out : ∃ S n T m, e = .returned (.agg #[I f.n, I f.d, .slice S l.1.length n, .slice T l.2.length m]) ∧ l.1.length ≤ n ∧ n ≤ maxLen ∧ l.2.length ≤ m ∧ m ≤ maxLen ∧ Rd w' w'.heap.size 1 S l.1.length (rI l.1) ∧ Rd w' w'.heap.size 1 T l.2.length (rI l.2) ∧ (∀ a, S = some a → w.heap.size ≤ a.block) ∧ ∀ a, T = some a → w.heap.size ≤ a.block
 below : Below w.heap.size w w'
abbrev OwnI (w : World) (B : Nat) (v : Value) (l : List Int) : Prop := w.ownsRow B 3 1 v l.length (l.map fun x => I x)
theorem own_low {w : World} {base n sz m c : Nat} {e : TypeId} {xs : List Value} {A : Option Addr} (h : w.ownsRow base e sz (.slice A m c) n xs) : ∀ a, A = some a → base ≤ a.block := fun a ha => by
 rcases h.2 with ⟨h1, _⟩ | ⟨g, cap, cur, h1, hg, _⟩
 · injection h1 with e1; rw [e1] at ha; cases ha
 · injection h1 with e1; rw [e1] at ha; injection ha with ha; rw [← ha]; exact hg
theorem OwnI.rd {w : World} {B : Nat} {v : Value} {l : List Int} (h : OwnI w B v l) : ∃ A c, v = .slice A l.length c ∧ l.length ≤ c ∧ c ≤ maxLen ∧ Rd w w.heap.size 1 A l.length (rI l) := by
 unfold OwnI at h
 rw [ints_flat] at h
 exact Rd.of_own_max h
structure FlSt (w : World) (b3 q : Nat) (f : Frc) (p : Prf) (k : Nat) (va vb : Value) (V : World) : Prop where
 row : V.heap[b3]? = some (.cells #[I f.n, I f.d, va, vb] 106 (0, 0))
 oa : OwnI V (b3 + 1) va (flKF p k).1
 ob : OwnI V (b3 + 1) vb (flKF p k).2
 ap : ApartF va vb
 rp : V.heap[q]? = some (.cells (pfA p) 102 (0, 0))
 bw : Below w.heap.size w V
 r2 : V.heap[w.heap.size]? = some (.cells #[I 0, I 0, .slice none 0 0, .slice none 0 0] 106 (0, 0))
 lt : q < w.heap.size ∧ w.heap.size < b3
theorem FlSt.below {w : World} {b3 q : Nat} {f : Frc} {p : Prf} {k : Nat} {va vb : Value} {V U : World} (h : FlSt w b3 q f p k va vb V) (hb : Below V.heap.size V U) : FlSt w b3 q f p k va vb U := by
 have hg := fun row => le_grown (a := V) (b := U) hb row
 refine ⟨(hb.block _ (lt_of_row h.row)).trans h.row, own_otherF h.oa (hg none) (fun _ _ => by simp), own_otherF h.ob (hg none) (fun _ _ => by simp), h.ap, (hb.block _ (lt_of_row h.rp)).trans h.rp, h.bw.trans (hb.mono h.bw.size), (hb.block _ (lt_of_row h.r2)).trans h.r2, h.lt⟩
theorem FlSt.grown {w : World} {b3 q : Nat} {f : Frc} {p : Prf} {k : Nat} {va vb : Value} {V U : World} (h : FlSt w b3 q f p k va vb V) (hg : V.grownBy U va.ownBlock) :
 U.heap[b3]? = some (.cells #[I f.n, I f.d, va, vb] 106 (0, 0)) ∧ OwnI U (b3 + 1) vb (flKF p k).2 ∧ U.heap[q]? = some (.cells (pfA p) 102 (0, 0)) ∧ Below w.heap.size w U := by
 have hge := h.oa.lt
 obtain ⟨l1, l2⟩ := h.lt
 refine ⟨(hg.block _ (lt_of_row h.row) (fun e => by have := hge _ e.symm; omega)).trans h.row, own_otherF h.ob hg (fun b hb e => h.ap b hb e), (hg.block _ (lt_of_row h.rp) (fun e => by have := hge _ e.symm; omega)).trans h.rp, h.bw.grown hg h.bw.size (fun k e => by have := hge _ e; omega)⟩
theorem app_grows {L : Pr.Pre} {P : Program} {o : Oper} {a : Act} {w : World} {R : Value → World → Prop} (s x : Operand) (t : TypeId) (ho : o.op = .call { callee := .builtin .append, args := #[s, x], argTypes := #[t, t] }) (v sl v' : Value) (hs : a.eval s = v) (hx : a.eval x = sl) (w' : World)
 (hr : (Builtin.append_ #[t, t] o.type #[v, sl]).run P w = .ok v' w') (hl : L.le w w') (hb : Pr.Box L R v' w') : Pr.grows L P o a w R := by
 unfold Pr.grows
 have he : (execOp a.eval o).run P w = .ok (.value v') w' := by simp [execOp, ho, resolve, invoke, builtin, hs, hx, hr, Result.andThen]
 rw [he]
 exact ⟨hl, hb⟩
theorem slp_grow {L : Pr.Pre} {w0 w : World} {cs : Array Value} {t : TypeId} {n : Nat} {row : Option Nat} (h1 : ∀ a b, Le a b → L.le a b) (h2 : ∀ a b, L.le a b → a.grownBy b row) (hrow : ∀ k, row = some k → k < w0.heap.size) (h : Pr.Cl L w0 w) :
 L.le w (w.alloc (.cells cs t)) ∧ Pr.Box L (SlN w0 cs t n) (.slice (some ⟨w.heap.size, 0, none⟩) n n) (w.alloc (.cells cs t)) := by
 have hs := (h2 _ _ h.le).size
 exact ⟨h1 _ _ ((Below.refl _ _).alloc (Nat.le_refl _) _), fun V hV => ⟨_, rfl, ((h2 _ _ hV).block _ (by simp) (fun e => by have := hrow _ e.symm; omega)).trans (heap_alloc_new w _), hs⟩⟩
theorem FlSt.next {w : World} {b3 q : Nat} {f : Frc} {p : Prf} {k k' : Nat} {va vb : Value} {V : World} (h : FlSt w b3 q f p k va vb V) (he : flKF p k' = flKF p k) : FlSt w b3 q f p k' va vb V :=
 ⟨h.row, by rw [he]; exact h.oa, by rw [he]; exact h.ob, h.ap, h.rp, h.bw, h.r2, h.lt⟩
theorem pl_cell {L : Pr.Pre} {X : World} {row : Option Nat} (h2 : ∀ a b, L.le a b → a.grownBy b row) {b o : Nat} {v : Value} (h : X.cell? ⟨b, o, none⟩ = some v) (hne : some b ≠ row) : ∀ u, (Pr.ovl L X u).cell? ⟨b, o, none⟩ = some v := fun u => (h2 _ _ (Pr.ovl_le L X u)).cell h hne
theorem own_slice {w : World} {base n sz : Nat} {e : TypeId} {v : Value} {xs : List Value} (h : w.ownsRow base e sz v n xs) : ∃ A m c, v = .slice A m c := by
 rcases h.2 with ⟨h1, _⟩ | ⟨b, cap, cur, h1, _⟩
 · exact ⟨_, _, _, h1⟩
 · exact ⟨_, _, _, h1⟩
theorem grown_setCell (w : World) (b o : Nat) (v : Value) : w.grownBy (w.setCell ⟨b, o, none⟩ v) (some b) := ⟨rfl, rfl, rfl, by simp, fun k _ hk => heap_setCell_other _ _ _ _ (fun e => hk (by rw [e]))⟩
theorem FlSt.done {w : World} {b3 q : Nat} {f : Frc} {p : Prf} {k k' : Nat} {va vb va2 vb2 : Value} {X w5 w6 : World} {x y : Int} (h : FlSt w b3 q f p k va vb X) (hg5 : X.grownBy w5 va.ownBlock)
 (ho1 : w5.ownsRow (b3 + 1) 3 1 va2 ((flKF p k).1.length + 1) ((flKF p k).1.map (fun x => I x) ++ [I x])) (hob1 : va2.ownBlock = va.ownBlock ∨ ∃ k, va2.ownBlock = some k ∧ X.heap.size ≤ k)
 (ho2 : w6.ownsRow (b3 + 1) 3 1 vb2 ((flKF p k).2.length + 1) ((flKF p k).2.map (fun x => I x) ++ [I y])) (hg6 : w5.grownBy w6 vb.ownBlock) (hob2 : vb2.ownBlock = vb.ownBlock ∨ vb2.ownBlock = some w5.heap.size)
 (he : flKF p k' = ((flKF p k).1 ++ [x], (flKF p k).2 ++ [y])) : FlSt w b3 q f p k' va2 vb2 ((w6.setCell ⟨b3, 2, none⟩ va2).setCell ⟨b3, 3, none⟩ vb2) := by
 have ha := h.oa.lt
 have hb := h.ob.lt
 obtain ⟨l1, l2⟩ := h.lt
 have h5 : ∀ j, j < b3 + 1 → j < X.heap.size → w5.heap[j]? = X.heap[j]? := fun j hj hx => hg5.block j hx (fun e => by have := (ha _ e.symm).1; omega)
 have h6 : ∀ j, j < b3 + 1 → j < X.heap.size → w6.heap[j]? = X.heap[j]? := fun j hj hx => (hg6.block j (Nat.lt_of_lt_of_le hx hg5.size) (fun e => by have := (hb _ e.symm).1; omega)).trans (h5 j hj hx)
 have hrow := (h6 b3 (by omega) (lt_of_row h.row)).trans h.row
 have h8 : ∀ j, j < b3 → j < X.heap.size → ((w6.setCell ⟨b3, 2, none⟩ va2).setCell ⟨b3, 3, none⟩ vb2).heap[j]? = X.heap[j]? := fun j hj hx => by
  rw [heap_setCell_other _ _ _ _ (show j ≠ b3 by omega), heap_setCell_other _ _ _ _ (show j ≠ b3 by omega)]
  exact h6 j (by omega) hx
 have oset : ∀ {v : Value} {n : Nat} {xs : List Value}, w6.ownsRow (b3 + 1) 3 1 v n xs → ((w6.setCell ⟨b3, 2, none⟩ va2).setCell ⟨b3, 3, none⟩ vb2).ownsRow (b3 + 1) 3 1 v n xs := fun {v n xs} ho => by
  have hl := ho.lt
  have hne : ∀ b, v.ownBlock = some b → some b3 ≠ some b := fun b hb e => by have := (hl b hb).1; injection e with e; omega
  exact own_otherF (own_otherF ho (grown_setCell _ _ _ _) hne) (grown_setCell _ _ _ _) hne
 have ho16 : w6.ownsRow (b3 + 1) 3 1 va2 ((flKF p k).1.length + 1) ((flKF p k).1.map (fun x => I x) ++ [I x]) := own_otherF ho1 hg6 (fun b hvb e => by
  rcases hob1 with h9 | ⟨c, h9, hc⟩
  · exact h.ap b e (h9.symm.trans hvb)
  · rw [h9] at hvb
    injection hvb with hvb
    have := (hb b e).2
    omega)
 refine ⟨rs (rs hrow 2 va2) 3 vb2, ?_, ?_, ?_, (h8 q (by omega) (lt_of_row h.rp)).trans h.rp, ?_, ?_, h.lt⟩
 · have := oset ho16
   unfold OwnI
   rw [he]
   simpa using this
 · have := oset ho2
   unfold OwnI
   rw [he]
   simpa using this
 · intro b hv2 hva
   have hv1 := (ho1.lt b hva).2
   rcases hob2 with h9 | h9
   · rw [h9] at hv2
     rcases hob1 with h7 | ⟨c, h7, hc⟩
     · exact h.ap b hv2 (h7.symm.trans hva)
     · rw [h7] at hva
       injection hva with hva
       have := (hb b hv2).2
       omega
   · rw [h9] at hv2
     injection hv2 with hv2
     omega
 · have b5 := h.bw.grown hg5 h.bw.size (fun k e => by have := ha _ e; omega)
   have b6 := b5.grown hg6 b5.size (fun k e => by have := hb _ e; omega)
   exact (b6.setCell (p := ⟨b3, 2, none⟩) (by show w.heap.size ≤ b3; omega) _).setCell (p := ⟨b3, 3, none⟩) (by show w.heap.size ≤ b3; omega) _
 · exact (h8 _ l2 (lt_of_row h.r2)).trans h.r2
theorem int9b_info : (Tryz.prog.info? 3).map (fun i => (i.zero, i.size, i.bytes)) = some (some (I 0), 1, 8) := by kernel_rfl
theorem flat_at1 (a : Addr) (w : World) : (Instr.fieldAt 106 (.pointer (some a)) 1).run Tryz.prog w = .ok (.pointer (some (a.add 2))) w := by kernel_rfl
theorem flat_at0 (x : Value) (h : ∀ a, x ≠ .pointer (some a)) (w : World) : (Instr.fieldAt 106 x 1).run Tryz.prog w = .halt (.stuck "an address expected (no nilCheck in front?)") w := by
 have hs : ∀ x : Value, (∀ a, x ≠ .pointer (some a)) → Instr.sureAddr x = stuck "an address expected (no nilCheck in front?)" := fun x h => by
  unfold Instr.sureAddr
  split
  · exact absurd rfl (h _)
  · rfl
 have hu : (Instr.fieldAt 106 (.pointer none) 1).run Tryz.prog w = .halt (.stuck "an address expected (no nilCheck in front?)") w := by kernel_rfl
 unfold Instr.fieldAt at hu ⊢
 rw [hs x h]
 rw [hs _ (fun a e => by cases e)] at hu
 exact hu
theorem field_still {o : Oper} {ρ : Operand → Value} {v : Value} {w w2 : World} (hop : o.op = .fieldAddr 106 (.tmp 3) 1) (he : (execOp ρ o).run Tryz.prog w = .ok (.value v) w) : (execOp ρ o).run Tryz.prog w2 = .ok (.value v) w2 := by
 have hex : execOp ρ o = (do pure (Next.value (← Instr.fieldAt 106 (ρ (.tmp 3)) 1))) := by unfold execOp; rw [hop]
 rw [hex, Sem.run_bind] at he
 rw [hex, Sem.run_bind]
 by_cases hq : ∃ a, ρ (.tmp 3) = .pointer (some a)
 · obtain ⟨a, ha⟩ := hq
   rw [ha, flat_at1] at he
   rw [ha, flat_at1]
   simp only [Result.andThen_ok, Sem.run_pure] at he ⊢
   injection he with h1 _
   rw [h1]
 · rw [flat_at0 _ (fun a e => hq ⟨a, e⟩)] at he
   cases he
set_option maxRecDepth 100000 in
set_option maxHeartbeats 8000000 in
theorem flat_any (p : Prf) (q : Nat) (w : World) (hr : w.heap[q]? = some (.cells (pfA p) 102 (0, 0))) (hp : p.s = true → 0 < p.b.sz ∧ fok ⟨p.v, p.b.sz⟩ = true) :
 Calls Tryz.prog 37 #[.pointer (some ⟨q, 0, none⟩)] w (RetFl w (ds9 p) (flS p)) := by
 have hql := lt_of_row hr
 obtain ⟨W, hW⟩ : ∃ W, W = w.alloc (.cells #[I 0, I 0, .slice none 0 0, .slice none 0 0] 106) := ⟨_, rfl⟩
 have HUW : Hid (∀ u, Below w.heap.size w (ovr W u)) := U1 hW
 have rb : W.heap[w.heap.size]? = some (.cells #[I 0, I 0, .slice none 0 0, .slice none 0 0] 106 (0, 0)) := by rw [hW]; exact heap_last _ _ _ rfl
 have rq : W.heap[q]? = some (.cells (pfA p) 102 (0, 0)) := by rw [hW]; exact heap_before hr
 have HRB := Lib.hid (ovr_row rb)
 have HRQ := Lib.hid (ovr_row rq)
 have hsW : W.heap.size = w.heap.size + 1 := by rw [hW]; simp
 have HSW := Lib.hid hsW
 have HQL := Lib.hid hql
 have ys := cell_row9 rq (j := 18) (v := .bool p.s) rfl
 have HW := Lib.hid hW
 clear hW rb hr hsW hql
 go_enter Tryz.func37, Tryz.ntmps37
 go_upto_region 1 with (fail)
 rw [← HW.out]
 obtain ⟨u0, hu0⟩ := ovr_self W
 rw [hu0]
 clear hu0
 rcases hs : p.s with _ | _
 · have HD : Hid (ds9 p = ⟨0, 1⟩ ∧ flS p = ([], [])) := by
    constructor
    · unfold ds9; rw [hs]; rfl
    · unfold flS; rw [hs]; rfl
   rw [hs] at ys
   clear rq hp
   go_wp2_with (with_reducible show wpList _ _ _ _ _ _; refine wpList_store_row rfl 106 _ _ rfl w.heap.size rfl _ _ (HRB.out u0) #[I 0, I 1, .slice none 0 0, .slice none 0 0] rfl (by simp [Value.oneCell']) rfl (by kernel_rfl) ?_)
   refine bodyPost_ret (results_cell_only rfl _ _ (w.heap.size) 106 _ (0, 0) _ rfl (setRow_same (HRB.out u0)) Tryz.underlying106 rfl (by kernel_rfl)) rfl ?_
   rw [HD.out.1, HD.out.2]
   exact ⟨⟨none, 0, none, 0, rfl, Nat.le_refl _, Nat.zero_le _, Nat.le_refl _, Nat.zero_le _, Rd.nil, Rd.nil, fun _ h => (by cases h), fun _ h => (by cases h)⟩, below_setRow (HUW.out _) (Nat.le_refl _) _⟩
 obtain ⟨hsz, hfk⟩ := hp hs
 have CL := Lib.hid fun V => lowest9_any p.v p.b.sz V hfk
 have HD : Hid (ds9 p = low9 p.v p.b.sz ∧ flS p = flKF p 4) := by
  constructor
  · unfold ds9; rw [hs]; rfl
  · unfold flS; rw [hs]; rfl
 rw [hs] at ys
 obtain ⟨f, hf⟩ : ∃ f, low9 p.v p.b.sz = f := ⟨_, rfl⟩
 rw [hf] at HD CL
 clear rq hp hs hf hsz hfk
 go_upto_region 3 with (fail)
 obtain ⟨V, hV⟩ : ∃ V, V = ovr W u0 := ⟨_, rfl⟩
 have rq : V.heap[q]? = some (.cells (pfA p) 102 (0, 0)) := by rw [hV]; exact HRQ.out u0
 have rb : V.heap[w.heap.size]? = some (.cells #[I 0, I 0, .slice none 0 0, .slice none 0 0] 106 (0, 0)) := by rw [hV]; exact HRB.out u0
 have hbV : Below w.heap.size w V := by rw [hV]; exact HUW.out u0
 have yv := cell_row9 rq (j := 17) (v := I p.v) rfl
 have yz := cell_row9 rq (j := 16) (v := I p.b.sz) rfl
 have HVR := Lib.hid (And.intro rq (And.intro rb hbV))
 rw [← hV]
 clear hV rq rb hbV ys HRB HRQ HUW HW
 refine wp_region_seq2 12 (fun j => if j = 9 then some (fun u _ => u = f.val) else if j = 11 then some (NewAt V #[I 0, I 0, .slice none 0 0, .slice none 0 0] 106) else none) (by kernel_rfl) (by kernel_rfl) (by kernel_rfl) (by kernel_rfl) (by kernel_rfl) ?_
 simp only [List.take_succ_cons, List.take_zero, List.drop_succ_cons, List.drop_zero]
 repeat (first | (refine wpG_one rfl rfl rfl ?_; intro K hK; go_big_quiet_op; go_big_quiet_on) | (refine wpG_skip rfl ?_; simp only [Act.put, List.setIfInBounds_toArray, List.set_cons_zero, List.set_cons_succ]))
 refine wpG_make (fun u _ => u = f.val) rfl rfl (fun w' hw' hk => ?_) (fun u hu => ?_)
 · go_simp
   exact call_grow (CL.out w')
 obtain ⟨_, _, rfl⟩ := hu
 simp only [Act.put, List.setIfInBounds_toArray, List.set_cons_zero, List.set_cons_succ]
 repeat (first | (refine wpG_one rfl rfl rfl ?_; intro K hK; go_big_quiet_op; go_big_quiet_on) | (refine wpG_skip rfl ?_; simp only [Act.put, List.setIfInBounds_toArray, List.set_cons_zero, List.set_cons_succ]))
 refine wpG_make (NewAt V #[I 0, I 0, .slice none 0 0, .slice none 0 0] 106) rfl rfl (fun w' hw' hk => ?_) (fun u hu => ?_)
 · go_simp
   exact new_grow hw'
 obtain ⟨_, _, b3, rfl, _, _⟩ := hu
 simp only [Act.put, List.setIfInBounds_toArray, List.set_cons_zero, List.set_cons_succ]
 repeat (first | (refine wpG_one rfl rfl rfl ?_; intro K hK; go_big_quiet_op; go_big_quiet_on) | (refine wpG_skip rfl ?_; simp only [Act.put, List.setIfInBounds_toArray, List.set_cons_zero, List.set_cons_succ]))
 refine wpG_nil (fun w5 hw5 hG => ?_)
 have hx9 := (Box.now hG.2).at
 clear hG yv yz CL
 refine wpTailIn_cons Wd.wide (by intro c h; cases h) ?_
 refine wp_store_row 106 _ _ rfl b3 rfl _ _ hx9.1 #[I f.n, I f.d, .slice none 0 0, .slice none 0 0] rfl (by simp [Value.oneCell']) rfl (by kernel_rfl) ?_
 refine wpTailIn_nil ?_
 simp only [Act.put]
 obtain ⟨Z, hZ⟩ : ∃ Z, Z = w5.setRow b3 #[I f.n, I f.d, .slice none 0 0, .slice none 0 0] := ⟨_, rfl⟩
 have hbZ : Below V.heap.size V Z := by rw [hZ]; exact below_setRow hw5.le hx9.2 _
 have HST : Hid (FlSt w b3 q f p 0 (.slice none 0 0) (.slice none 0 0) Z) := by
  obtain ⟨h1, h2, h3⟩ := HVR.out
  have hwb := lt_of_row h2
  refine ⟨by rw [hZ]; exact setRow_same hx9.1, ⟨rfl, .inl ⟨rfl, rfl⟩⟩, ⟨rfl, .inl ⟨rfl, rfl⟩⟩, fun b hb => (by simp [Value.ownBlock] at hb), (hbZ.block _ (lt_of_row h1)).trans h1, h3.trans (hbZ.mono h3.size), (hbZ.block _ hwb).trans h2, HQL.out, Nat.lt_of_lt_of_le hwb hx9.2⟩
 rw [← hZ]
 clear hZ hbZ hx9 hw5 HVR HSW
 obtain ⟨v0, hv0⟩ := ovr_self Z
 have HST : Hid (FlSt w b3 q f p 0 (.slice none 0 0) (.slice none 0 0) (ovr Z v0)) := by rw [← hv0]; exact HST.out
 have rq := HST.out.rp
 have c0 := cell_of_row _ _ 0 _ _ _ rq
 have c1 := cell_of_row _ _ 1 _ _ _ rq
 have c2 := cell_of_row _ _ 2 _ _ _ rq
 have c3 := cell_of_row _ _ 3 _ _ _ rq
 have c4 := cell_of_row _ _ 4 _ _ _ rq
 have c5 := cell_of_row _ _ 5 _ _ _ rq
 have c6 := cell_of_row _ _ 6 _ _ _ rq
 have c7 := cell_of_row _ _ 7 _ _ _ rq
 have c8 := cell_of_row _ _ 8 _ _ _ rq
 have c9 := cell_of_row _ _ 9 _ _ _ rq
 have c10 := cell_of_row _ _ 10 _ _ _ rq
 have c11 := cell_of_row _ _ 11 _ _ _ rq
 change _ = some (I (p.b.a.at_ : Int)) at c0
 change _ = some (I p.b.a.x) at c1
 change _ = some (I p.b.a.y) at c2
 change _ = some (I (p.b.b.at_ : Int)) at c3
 change _ = some (I p.b.b.x) at c4
 change _ = some (I p.b.b.y) at c5
 change _ = some (I (p.b.c.at_ : Int)) at c6
 change _ = some (I p.b.c.x) at c7
 change _ = some (I p.b.c.y) at c8
 change _ = some (I (p.b.d.at_ : Int)) at c9
 change _ = some (I p.b.d.x) at c10
 change _ = some (I p.b.d.y) at c11
 rw [hv0]
 clear hv0 rq
 go_wp2_with fail
 clear c0 c1 c2 c3 c4 c5 c6 c7 c8 c9 c10 c11
 go_loopw [29] (fun i wr => ∃ (k : Nat) (va vb : Value), k ≤ 4 ∧ i = .int .i64 k ∧ FlSt w b3 q f p k va vb wr) (fun i _ => 4 - (intOf i).toNat)
 case atStart => exact ⟨0, _, _, by omega, rfl, HST.out⟩
 case round =>
  obtain ⟨k, va, vb, hk, rfl, hst⟩ := hrel
  have hc : k = 0 ∨ k = 1 ∨ k = 2 ∨ k = 3 ∨ k = 4 := by omega
  rcases hc with rfl | rfl | rfl | rfl | rfl
  · rw [show ((0 : Nat) : Int) = 0 from rfl]
    have hix := @ixp0
    rename World => Y
    have HSY := Lib.hid hst
    clear hst
    go_upto_region 7 with fail
    clear hix
    obtain ⟨X, hX⟩ : ∃ X, X = Y.alloc (.cells (ptA p.b.a) 96) := ⟨_, rfl⟩
    have HSX : Hid (FlSt w b3 q f p 0 va vb X) := HSY.out.below (by rw [hX]; exact (Below.refl _ _).alloc (Nat.le_refl _) _)
    obtain ⟨c, hc⟩ : ∃ c, c = Y.heap.size := ⟨_, rfl⟩
    have rX : X.heap[c]? = some (.cells (ptA p.b.a) 96 (0, 0)) := by rw [hX]; exact heap_last _ _ _ hc
    have HCN : Hid (some c ≠ va.ownBlock) := fun e => by have := (HSY.out.oa.lt c e.symm).2; omega
    rw [← hc, ← hX]
    clear hX hc HSY
    have cw : X.cell? ⟨q, 12, none⟩ = some (I p.b.w0) := by rw [cell_of_row _ _ _ _ _ _ HSX.out.rp]; rfl
    by_cases hw0 : p.b.w0 = 0
    · have d0 : (p.b.w0 != 0) = false := by simp [hw0]
      have hfk : Hid (flKF p 1 = flKF p 0) := by show (if wtF p 0 = 0 then _ else _) = _; rw [show wtF p 0 = p.b.w0 from rfl, if_pos hw0]
      go_wp2_with fail
      go_roundw
      case rel => exact ⟨1, va, vb, by omega, by go_num, HSX.out.next hfk.out⟩
      case measure => simp [intOf]
    have d0 : (p.b.w0 != 0) = true := by simp [hw0]
    have hfk : Hid (flKF p 1 = ((flKF p 0).1 ++ [(p.b.a.at_ : Int)], (flKF p 0).2 ++ [p.b.w0])) := by show (if wtF p 0 = 0 then _ else _) = _; rw [show wtF p 0 = p.b.w0 from rfl, if_neg hw0]; rfl
    clear hw0
    go_upto_region 8 with fail
    have hlen := flK_len p 0
    obtain ⟨i0, hi0, iz0, iz1, iz2⟩ := info_parts int9b_info
    obtain ⟨L, hL1, hL2, happ⟩ := app_pre (P := Tryz.prog) 33 33 3 i0 (I 0) 1 8 Tryz.underlying33 hi0 iz0 iz1 iz2 rfl (by decide) X (b3 + 1) va _ _ HSX.out.oa (by have := lt_of_row HSX.out.row; omega) [I (p.b.a.at_ : Int)] rfl (by simp [Value.oneCell']) (by omega) (by decide)
    have hvl := HSX.out.oa.lt
    have nb3 : some b3 ≠ va.ownBlock := fun e => by have := (hvl _ e.symm).1; omega
    have nq : some q ≠ va.ownBlock := fun e => by have := (hvl _ e.symm).1; have := HSX.out.lt; omega
    have y0 := pl_cell hL2 (show X.cell? ⟨b3, 2, none⟩ = some va by rw [cell_of_row _ _ _ _ _ _ HSX.out.row]; rfl) nb3
    have y1 := pl_cell hL2 (show X.cell? ⟨b3, 3, none⟩ = some vb by rw [cell_of_row _ _ _ _ _ _ HSX.out.row]; rfl) nb3
    have y2 := pl_cell hL2 (show X.cell? ⟨c, 0, none⟩ = some (I (p.b.a.at_ : Int)) by rw [cell_of_row _ _ _ _ _ _ rX]; rfl) HCN.out
    have y3 := pl_cell hL2 cw nq
    have HL := Lib.hid (And.intro hL1 hL2)
    have HAP := Lib.hid happ
    have HVL : Hid (∀ k, va.ownBlock = some k → k < X.heap.size) := fun k hk => (hvl k hk).2
    clear hlen hvl nb3 nq cw hL1 hL2 happ
    refine Pr.wp_region_plate 16 L 17 [16] (fun j => if j = 4 then some (SlN X #[I (p.b.a.at_ : Int)] 3 1) else if j = 5 then some (fun u w => w.ownsRow (b3 + 1) 3 1 u ((flKF p 0).1.length + 1) ((flKF p 0).1.map (fun x => I x) ++ [I (p.b.a.at_ : Int)]) ∧ (u.ownBlock = va.ownBlock ∨ ∃ k, u.ownBlock = some k ∧ X.heap.size ≤ k)) else if j = 15 then some (SlN X #[I p.b.w0] 3 1) else none) (HL.out.1 _ _ (Below.refl _ _).drew) (by kernel_rfl) (by kernel_rfl) (by kernel_rfl) (by kernel_rfl) (by kernel_rfl) (by kernel_rfl) (by kernel_rfl) (fun t ht => by simp only [List.mem_cons, List.not_mem_nil, or_false] at ht; rcases ht with rfl; rfl) (fun c a d v w h => by cases d <;> exact h) (fun i hi oi ho ρ v w1 w2 he => by simp only [List.mem_cons, List.not_mem_nil, or_false] at hi; subst hi; have hop := congrArg (Option.map Oper.op) ho; change some (Op.fieldAddr 106 (.tmp 3) 1) = some oi.op at hop; exact field_still (Option.some.inj hop).symm he) ?_
    simp only [Pr.permL, Pr.ren, Pr.sw, List.map_cons, List.map_nil, List.map_toArray, List.take_succ_cons, List.take_zero, List.drop_succ_cons, List.drop_zero, List.cons_append, List.nil_append, Nat.reduceAdd, Nat.reduceEqDiff, eq_self, ↓reduceIte]
    repeat (first | (refine Pr.wpG_one rfl rfl rfl ?_; intro K hK; go_big_quiet_op; go_big_quiet_on) | (refine Pr.wpG_skip rfl ?_; simp only [Act.put, List.setIfInBounds_toArray, List.set_cons_zero, List.set_cons_succ]))
    refine Pr.wpG_make (SlN X #[I (p.b.a.at_ : Int)] 3 1) rfl rfl (fun w' hw' hk => ?_) (fun u hu => ?_)
    · unfold Pr.grows
      go_simp
      exact slp_grow HL.out.1 HL.out.2 HVL.out hw'
    obtain ⟨_, _, SB, rfl, _, _⟩ := hu
    simp only [Act.put, List.setIfInBounds_toArray, List.set_cons_zero, List.set_cons_succ]
    repeat (first | (refine Pr.wpG_one rfl rfl rfl ?_; intro K hK; go_big_quiet_op; go_big_quiet_on) | (refine Pr.wpG_skip rfl ?_; simp only [Act.put, List.setIfInBounds_toArray, List.set_cons_zero, List.set_cons_succ]))
    refine Pr.wpG_make (fun u w => w.ownsRow (b3 + 1) 3 1 u ((flKF p 0).1.length + 1) ((flKF p 0).1.map (fun x => I x) ++ [I (p.b.a.at_ : Int)]) ∧ (u.ownBlock = va.ownBlock ∨ ∃ k, u.ownBlock = some k ∧ X.heap.size ≤ k)) rfl rfl (fun w' hw' hk => ?_) (fun u hu => ?_)
    · have h4 := (hk ⟨4, .data⟩ (by simp) rfl _ _ _ rfl rfl rfl (by simp) rfl).now.at
      obtain ⟨v', w1, e1, e2, e3⟩ := HAP.out w' hw' ⟨SB, 0, none⟩ 1 (news_lit h4.1)
      exact app_grows _ _ 33 rfl va _ v' rfl rfl w1 e1 e2 e3
    obtain ⟨va2, rfl⟩ : ∃ v, v = u := ⟨_, rfl⟩
    clear hu
    simp only [Act.put, List.setIfInBounds_toArray, List.set_cons_zero, List.set_cons_succ]
    repeat (first | (refine Pr.wpG_one rfl rfl rfl ?_; intro K hK; go_big_quiet_op; go_big_quiet_on) | (refine Pr.wpG_skip rfl ?_; simp only [Act.put, List.setIfInBounds_toArray, List.set_cons_zero, List.set_cons_succ]))
    refine Pr.wpG_make (SlN X #[I p.b.w0] 3 1) rfl rfl (fun w' hw' hk => ?_) (fun u hu => ?_)
    · unfold Pr.grows
      go_simp
      exact slp_grow HL.out.1 HL.out.2 HVL.out hw'
    obtain ⟨_, _, TB, rfl, _, _⟩ := hu
    simp only [Act.put, List.setIfInBounds_toArray, List.set_cons_zero, List.set_cons_succ]
    repeat (first | (refine Pr.wpG_one rfl rfl rfl ?_; intro K hK; go_big_quiet_op; go_big_quiet_on) | (refine Pr.wpG_skip rfl ?_; simp only [Act.put, List.setIfInBounds_toArray, List.set_cons_zero, List.set_cons_succ]))
    refine Pr.wpG_nil (fun w5 hw5 hG => ?_)
    have hO1 := hG.1.2.now
    have hB1 := hG.2.now.at
    have hgr := HL.out.2 _ _ hw5.le
    have hg9 := HSX.out.grown hgr
    clear hG hw5 y0 y1 y2 y3 HL HAP HVL rX HCN
    refine Dl.wpTailH_cons ?_
    refine wp_app_ownF _ _ 33 rfl (b3 + 1) 3 i0 (I 0) 1 8 Tryz.underlying33 hi0 iz0 iz1 iz2 rfl (by decide) vb _ _ rfl hg9.2.1 ⟨TB, 0, none⟩ 1 [I p.b.w0] rfl rfl (news_lit hB1.1) (by simp [Value.oneCell']) (by have := flK_len p 0; omega) (by decide) (by have := lt_of_row hg9.1; omega) (fun vb2 w6 hO2 hg6 hOb2 => ⟨trivial, ?_⟩)
    obtain ⟨SA, sn, sc, rfl⟩ := own_slice hO1.1
    obtain ⟨TA, tn, tc, rfl⟩ := own_slice hO2
    have HFIN := Lib.hid (HSX.out.done hgr hO1.1 hO1.2 hO2 hg6 hOb2 hfk.out)
    have hrow6 : w6.heap[b3]? = some (.cells #[I f.n, I f.d, va, vb] 106 (0, 0)) := (hg6.block b3 (lt_of_row hg9.1) (fun e => by have := (HSX.out.ob.lt _ e.symm).1; omega)).trans hg9.1
    have hrow7 := rs hrow6 2 (.slice SA sn sc)
    have z2 : w6.cell? ⟨b3, 2, none⟩ = some va := by rw [cell_of_row _ _ _ _ _ _ hrow6]; rfl
    have f2 := frozen_of_row _ _ 2 _ _ hrow6
    have z3 : (w6.setCell ⟨b3, 2, none⟩ (.slice SA sn sc)).cell? ⟨b3, 3, none⟩ = some vb := by rw [cell_of_row _ _ _ _ _ _ hrow7]; rfl
    have f3 := frozen_of_row _ _ 3 _ _ hrow7
    clear hO1 hB1 hgr hg9 hO2 hg6 hOb2 hrow6 hrow7 hfk HSX
    refine Dl.wpTailH_cons ?_
    unfold Oper.wp
    go_simp
    refine Dl.wpTailH_cons ?_
    unfold Oper.wp
    go_simp
    refine Dl.wpTailH_cons ?_
    unfold Oper.wp
    go_simp
    refine Dl.wpTailH_nil ?_
    (try simp only [Act.put])
    go_wp2_with fail
    go_roundw
    case rel => exact ⟨1, _, _, by omega, by go_num, HFIN.out⟩
    case measure => simp [intOf]
  · rw [show ((1 : Nat) : Int) = 1 from rfl]
    have hix := @ixp1
    rename World => Y
    have HSY := Lib.hid hst
    clear hst
    go_upto_region 7 with fail
    clear hix
    obtain ⟨X, hX⟩ : ∃ X, X = Y.alloc (.cells (ptA p.b.b) 96) := ⟨_, rfl⟩
    have HSX : Hid (FlSt w b3 q f p 1 va vb X) := HSY.out.below (by rw [hX]; exact (Below.refl _ _).alloc (Nat.le_refl _) _)
    obtain ⟨c, hc⟩ : ∃ c, c = Y.heap.size := ⟨_, rfl⟩
    have rX : X.heap[c]? = some (.cells (ptA p.b.b) 96 (0, 0)) := by rw [hX]; exact heap_last _ _ _ hc
    have HCN : Hid (some c ≠ va.ownBlock) := fun e => by have := (HSY.out.oa.lt c e.symm).2; omega
    rw [← hc, ← hX]
    clear hX hc HSY
    have cw : X.cell? ⟨q, 13, none⟩ = some (I p.b.w1) := by rw [cell_of_row _ _ _ _ _ _ HSX.out.rp]; rfl
    by_cases hw0 : p.b.w1 = 0
    · have d0 : (p.b.w1 != 0) = false := by simp [hw0]
      have hfk : Hid (flKF p 2 = flKF p 1) := by show (if wtF p 1 = 0 then _ else _) = _; rw [show wtF p 1 = p.b.w1 from rfl, if_pos hw0]
      go_wp2_with fail
      go_roundw
      case rel => exact ⟨2, va, vb, by omega, by go_num, HSX.out.next hfk.out⟩
      case measure => simp [intOf]
    have d0 : (p.b.w1 != 0) = true := by simp [hw0]
    have hfk : Hid (flKF p 2 = ((flKF p 1).1 ++ [(p.b.b.at_ : Int)], (flKF p 1).2 ++ [p.b.w1])) := by show (if wtF p 1 = 0 then _ else _) = _; rw [show wtF p 1 = p.b.w1 from rfl, if_neg hw0]; rfl
    clear hw0
    go_upto_region 8 with fail
    have hlen := flK_len p 1
    obtain ⟨i0, hi0, iz0, iz1, iz2⟩ := info_parts int9b_info
    obtain ⟨L, hL1, hL2, happ⟩ := app_pre (P := Tryz.prog) 33 33 3 i0 (I 0) 1 8 Tryz.underlying33 hi0 iz0 iz1 iz2 rfl (by decide) X (b3 + 1) va _ _ HSX.out.oa (by have := lt_of_row HSX.out.row; omega) [I (p.b.b.at_ : Int)] rfl (by simp [Value.oneCell']) (by omega) (by decide)
    have hvl := HSX.out.oa.lt
    have nb3 : some b3 ≠ va.ownBlock := fun e => by have := (hvl _ e.symm).1; omega
    have nq : some q ≠ va.ownBlock := fun e => by have := (hvl _ e.symm).1; have := HSX.out.lt; omega
    have y0 := pl_cell hL2 (show X.cell? ⟨b3, 2, none⟩ = some va by rw [cell_of_row _ _ _ _ _ _ HSX.out.row]; rfl) nb3
    have y1 := pl_cell hL2 (show X.cell? ⟨b3, 3, none⟩ = some vb by rw [cell_of_row _ _ _ _ _ _ HSX.out.row]; rfl) nb3
    have y2 := pl_cell hL2 (show X.cell? ⟨c, 0, none⟩ = some (I (p.b.b.at_ : Int)) by rw [cell_of_row _ _ _ _ _ _ rX]; rfl) HCN.out
    have y3 := pl_cell hL2 cw nq
    have HL := Lib.hid (And.intro hL1 hL2)
    have HAP := Lib.hid happ
    have HVL : Hid (∀ k, va.ownBlock = some k → k < X.heap.size) := fun k hk => (hvl k hk).2
    clear hlen hvl nb3 nq cw hL1 hL2 happ
    refine Pr.wp_region_plate 16 L 17 [16] (fun j => if j = 4 then some (SlN X #[I (p.b.b.at_ : Int)] 3 1) else if j = 5 then some (fun u w => w.ownsRow (b3 + 1) 3 1 u ((flKF p 1).1.length + 1) ((flKF p 1).1.map (fun x => I x) ++ [I (p.b.b.at_ : Int)]) ∧ (u.ownBlock = va.ownBlock ∨ ∃ k, u.ownBlock = some k ∧ X.heap.size ≤ k)) else if j = 15 then some (SlN X #[I p.b.w1] 3 1) else none) (HL.out.1 _ _ (Below.refl _ _).drew) (by kernel_rfl) (by kernel_rfl) (by kernel_rfl) (by kernel_rfl) (by kernel_rfl) (by kernel_rfl) (by kernel_rfl) (fun t ht => by simp only [List.mem_cons, List.not_mem_nil, or_false] at ht; rcases ht with rfl; rfl) (fun c a d v w h => by cases d <;> exact h) (fun i hi oi ho ρ v w1 w2 he => by simp only [List.mem_cons, List.not_mem_nil, or_false] at hi; subst hi; have hop := congrArg (Option.map Oper.op) ho; change some (Op.fieldAddr 106 (.tmp 3) 1) = some oi.op at hop; exact field_still (Option.some.inj hop).symm he) ?_
    simp only [Pr.permL, Pr.ren, Pr.sw, List.map_cons, List.map_nil, List.map_toArray, List.take_succ_cons, List.take_zero, List.drop_succ_cons, List.drop_zero, List.cons_append, List.nil_append, Nat.reduceAdd, Nat.reduceEqDiff, eq_self, ↓reduceIte]
    repeat (first | (refine Pr.wpG_one rfl rfl rfl ?_; intro K hK; go_big_quiet_op; go_big_quiet_on) | (refine Pr.wpG_skip rfl ?_; simp only [Act.put, List.setIfInBounds_toArray, List.set_cons_zero, List.set_cons_succ]))
    refine Pr.wpG_make (SlN X #[I (p.b.b.at_ : Int)] 3 1) rfl rfl (fun w' hw' hk => ?_) (fun u hu => ?_)
    · unfold Pr.grows
      go_simp
      exact slp_grow HL.out.1 HL.out.2 HVL.out hw'
    obtain ⟨_, _, SB, rfl, _, _⟩ := hu
    simp only [Act.put, List.setIfInBounds_toArray, List.set_cons_zero, List.set_cons_succ]
    repeat (first | (refine Pr.wpG_one rfl rfl rfl ?_; intro K hK; go_big_quiet_op; go_big_quiet_on) | (refine Pr.wpG_skip rfl ?_; simp only [Act.put, List.setIfInBounds_toArray, List.set_cons_zero, List.set_cons_succ]))
    refine Pr.wpG_make (fun u w => w.ownsRow (b3 + 1) 3 1 u ((flKF p 1).1.length + 1) ((flKF p 1).1.map (fun x => I x) ++ [I (p.b.b.at_ : Int)]) ∧ (u.ownBlock = va.ownBlock ∨ ∃ k, u.ownBlock = some k ∧ X.heap.size ≤ k)) rfl rfl (fun w' hw' hk => ?_) (fun u hu => ?_)
    · have h4 := (hk ⟨4, .data⟩ (by simp) rfl _ _ _ rfl rfl rfl (by simp) rfl).now.at
      obtain ⟨v', w1, e1, e2, e3⟩ := HAP.out w' hw' ⟨SB, 0, none⟩ 1 (news_lit h4.1)
      exact app_grows _ _ 33 rfl va _ v' rfl rfl w1 e1 e2 e3
    obtain ⟨va2, rfl⟩ : ∃ v, v = u := ⟨_, rfl⟩
    clear hu
    simp only [Act.put, List.setIfInBounds_toArray, List.set_cons_zero, List.set_cons_succ]
    repeat (first | (refine Pr.wpG_one rfl rfl rfl ?_; intro K hK; go_big_quiet_op; go_big_quiet_on) | (refine Pr.wpG_skip rfl ?_; simp only [Act.put, List.setIfInBounds_toArray, List.set_cons_zero, List.set_cons_succ]))
    refine Pr.wpG_make (SlN X #[I p.b.w1] 3 1) rfl rfl (fun w' hw' hk => ?_) (fun u hu => ?_)
    · unfold Pr.grows
      go_simp
      exact slp_grow HL.out.1 HL.out.2 HVL.out hw'
    obtain ⟨_, _, TB, rfl, _, _⟩ := hu
    simp only [Act.put, List.setIfInBounds_toArray, List.set_cons_zero, List.set_cons_succ]
    repeat (first | (refine Pr.wpG_one rfl rfl rfl ?_; intro K hK; go_big_quiet_op; go_big_quiet_on) | (refine Pr.wpG_skip rfl ?_; simp only [Act.put, List.setIfInBounds_toArray, List.set_cons_zero, List.set_cons_succ]))
    refine Pr.wpG_nil (fun w5 hw5 hG => ?_)
    have hO1 := hG.1.2.now
    have hB1 := hG.2.now.at
    have hgr := HL.out.2 _ _ hw5.le
    have hg9 := HSX.out.grown hgr
    clear hG hw5 y0 y1 y2 y3 HL HAP HVL rX HCN
    refine Dl.wpTailH_cons ?_
    refine wp_app_ownF _ _ 33 rfl (b3 + 1) 3 i0 (I 0) 1 8 Tryz.underlying33 hi0 iz0 iz1 iz2 rfl (by decide) vb _ _ rfl hg9.2.1 ⟨TB, 0, none⟩ 1 [I p.b.w1] rfl rfl (news_lit hB1.1) (by simp [Value.oneCell']) (by have := flK_len p 1; omega) (by decide) (by have := lt_of_row hg9.1; omega) (fun vb2 w6 hO2 hg6 hOb2 => ⟨trivial, ?_⟩)
    obtain ⟨SA, sn, sc, rfl⟩ := own_slice hO1.1
    obtain ⟨TA, tn, tc, rfl⟩ := own_slice hO2
    have HFIN := Lib.hid (HSX.out.done hgr hO1.1 hO1.2 hO2 hg6 hOb2 hfk.out)
    have hrow6 : w6.heap[b3]? = some (.cells #[I f.n, I f.d, va, vb] 106 (0, 0)) := (hg6.block b3 (lt_of_row hg9.1) (fun e => by have := (HSX.out.ob.lt _ e.symm).1; omega)).trans hg9.1
    have hrow7 := rs hrow6 2 (.slice SA sn sc)
    have z2 : w6.cell? ⟨b3, 2, none⟩ = some va := by rw [cell_of_row _ _ _ _ _ _ hrow6]; rfl
    have f2 := frozen_of_row _ _ 2 _ _ hrow6
    have z3 : (w6.setCell ⟨b3, 2, none⟩ (.slice SA sn sc)).cell? ⟨b3, 3, none⟩ = some vb := by rw [cell_of_row _ _ _ _ _ _ hrow7]; rfl
    have f3 := frozen_of_row _ _ 3 _ _ hrow7
    clear hO1 hB1 hgr hg9 hO2 hg6 hOb2 hrow6 hrow7 hfk HSX
    refine Dl.wpTailH_cons ?_
    unfold Oper.wp
    go_simp
    refine Dl.wpTailH_cons ?_
    unfold Oper.wp
    go_simp
    refine Dl.wpTailH_cons ?_
    unfold Oper.wp
    go_simp
    refine Dl.wpTailH_nil ?_
    (try simp only [Act.put])
    go_wp2_with fail
    go_roundw
    case rel => exact ⟨2, _, _, by omega, by go_num, HFIN.out⟩
    case measure => simp [intOf]
  · rw [show ((2 : Nat) : Int) = 2 from rfl]
    have hix := @ixp2
    rename World => Y
    have HSY := Lib.hid hst
    clear hst
    go_upto_region 7 with fail
    clear hix
    obtain ⟨X, hX⟩ : ∃ X, X = Y.alloc (.cells (ptA p.b.c) 96) := ⟨_, rfl⟩
    have HSX : Hid (FlSt w b3 q f p 2 va vb X) := HSY.out.below (by rw [hX]; exact (Below.refl _ _).alloc (Nat.le_refl _) _)
    obtain ⟨c, hc⟩ : ∃ c, c = Y.heap.size := ⟨_, rfl⟩
    have rX : X.heap[c]? = some (.cells (ptA p.b.c) 96 (0, 0)) := by rw [hX]; exact heap_last _ _ _ hc
    have HCN : Hid (some c ≠ va.ownBlock) := fun e => by have := (HSY.out.oa.lt c e.symm).2; omega
    rw [← hc, ← hX]
    clear hX hc HSY
    have cw : X.cell? ⟨q, 14, none⟩ = some (I p.b.w2) := by rw [cell_of_row _ _ _ _ _ _ HSX.out.rp]; rfl
    by_cases hw0 : p.b.w2 = 0
    · have d0 : (p.b.w2 != 0) = false := by simp [hw0]
      have hfk : Hid (flKF p 3 = flKF p 2) := by show (if wtF p 2 = 0 then _ else _) = _; rw [show wtF p 2 = p.b.w2 from rfl, if_pos hw0]
      go_wp2_with fail
      go_roundw
      case rel => exact ⟨3, va, vb, by omega, by go_num, HSX.out.next hfk.out⟩
      case measure => simp [intOf]
    have d0 : (p.b.w2 != 0) = true := by simp [hw0]
    have hfk : Hid (flKF p 3 = ((flKF p 2).1 ++ [(p.b.c.at_ : Int)], (flKF p 2).2 ++ [p.b.w2])) := by show (if wtF p 2 = 0 then _ else _) = _; rw [show wtF p 2 = p.b.w2 from rfl, if_neg hw0]; rfl
    clear hw0
    go_upto_region 8 with fail
    have hlen := flK_len p 2
    obtain ⟨i0, hi0, iz0, iz1, iz2⟩ := info_parts int9b_info
    obtain ⟨L, hL1, hL2, happ⟩ := app_pre (P := Tryz.prog) 33 33 3 i0 (I 0) 1 8 Tryz.underlying33 hi0 iz0 iz1 iz2 rfl (by decide) X (b3 + 1) va _ _ HSX.out.oa (by have := lt_of_row HSX.out.row; omega) [I (p.b.c.at_ : Int)] rfl (by simp [Value.oneCell']) (by omega) (by decide)
    have hvl := HSX.out.oa.lt
    have nb3 : some b3 ≠ va.ownBlock := fun e => by have := (hvl _ e.symm).1; omega
    have nq : some q ≠ va.ownBlock := fun e => by have := (hvl _ e.symm).1; have := HSX.out.lt; omega
    have y0 := pl_cell hL2 (show X.cell? ⟨b3, 2, none⟩ = some va by rw [cell_of_row _ _ _ _ _ _ HSX.out.row]; rfl) nb3
    have y1 := pl_cell hL2 (show X.cell? ⟨b3, 3, none⟩ = some vb by rw [cell_of_row _ _ _ _ _ _ HSX.out.row]; rfl) nb3
    have y2 := pl_cell hL2 (show X.cell? ⟨c, 0, none⟩ = some (I (p.b.c.at_ : Int)) by rw [cell_of_row _ _ _ _ _ _ rX]; rfl) HCN.out
    have y3 := pl_cell hL2 cw nq
    have HL := Lib.hid (And.intro hL1 hL2)
    have HAP := Lib.hid happ
    have HVL : Hid (∀ k, va.ownBlock = some k → k < X.heap.size) := fun k hk => (hvl k hk).2
    clear hlen hvl nb3 nq cw hL1 hL2 happ
    refine Pr.wp_region_plate 16 L 17 [16] (fun j => if j = 4 then some (SlN X #[I (p.b.c.at_ : Int)] 3 1) else if j = 5 then some (fun u w => w.ownsRow (b3 + 1) 3 1 u ((flKF p 2).1.length + 1) ((flKF p 2).1.map (fun x => I x) ++ [I (p.b.c.at_ : Int)]) ∧ (u.ownBlock = va.ownBlock ∨ ∃ k, u.ownBlock = some k ∧ X.heap.size ≤ k)) else if j = 15 then some (SlN X #[I p.b.w2] 3 1) else none) (HL.out.1 _ _ (Below.refl _ _).drew) (by kernel_rfl) (by kernel_rfl) (by kernel_rfl) (by kernel_rfl) (by kernel_rfl) (by kernel_rfl) (by kernel_rfl) (fun t ht => by simp only [List.mem_cons, List.not_mem_nil, or_false] at ht; rcases ht with rfl; rfl) (fun c a d v w h => by cases d <;> exact h) (fun i hi oi ho ρ v w1 w2 he => by simp only [List.mem_cons, List.not_mem_nil, or_false] at hi; subst hi; have hop := congrArg (Option.map Oper.op) ho; change some (Op.fieldAddr 106 (.tmp 3) 1) = some oi.op at hop; exact field_still (Option.some.inj hop).symm he) ?_
    simp only [Pr.permL, Pr.ren, Pr.sw, List.map_cons, List.map_nil, List.map_toArray, List.take_succ_cons, List.take_zero, List.drop_succ_cons, List.drop_zero, List.cons_append, List.nil_append, Nat.reduceAdd, Nat.reduceEqDiff, eq_self, ↓reduceIte]
    repeat (first | (refine Pr.wpG_one rfl rfl rfl ?_; intro K hK; go_big_quiet_op; go_big_quiet_on) | (refine Pr.wpG_skip rfl ?_; simp only [Act.put, List.setIfInBounds_toArray, List.set_cons_zero, List.set_cons_succ]))
    refine Pr.wpG_make (SlN X #[I (p.b.c.at_ : Int)] 3 1) rfl rfl (fun w' hw' hk => ?_) (fun u hu => ?_)
    · unfold Pr.grows
      go_simp
      exact slp_grow HL.out.1 HL.out.2 HVL.out hw'
    obtain ⟨_, _, SB, rfl, _, _⟩ := hu
    simp only [Act.put, List.setIfInBounds_toArray, List.set_cons_zero, List.set_cons_succ]
    repeat (first | (refine Pr.wpG_one rfl rfl rfl ?_; intro K hK; go_big_quiet_op; go_big_quiet_on) | (refine Pr.wpG_skip rfl ?_; simp only [Act.put, List.setIfInBounds_toArray, List.set_cons_zero, List.set_cons_succ]))
    refine Pr.wpG_make (fun u w => w.ownsRow (b3 + 1) 3 1 u ((flKF p 2).1.length + 1) ((flKF p 2).1.map (fun x => I x) ++ [I (p.b.c.at_ : Int)]) ∧ (u.ownBlock = va.ownBlock ∨ ∃ k, u.ownBlock = some k ∧ X.heap.size ≤ k)) rfl rfl (fun w' hw' hk => ?_) (fun u hu => ?_)
    · have h4 := (hk ⟨4, .data⟩ (by simp) rfl _ _ _ rfl rfl rfl (by simp) rfl).now.at
      obtain ⟨v', w1, e1, e2, e3⟩ := HAP.out w' hw' ⟨SB, 0, none⟩ 1 (news_lit h4.1)
      exact app_grows _ _ 33 rfl va _ v' rfl rfl w1 e1 e2 e3
    obtain ⟨va2, rfl⟩ : ∃ v, v = u := ⟨_, rfl⟩
    clear hu
    simp only [Act.put, List.setIfInBounds_toArray, List.set_cons_zero, List.set_cons_succ]
    repeat (first | (refine Pr.wpG_one rfl rfl rfl ?_; intro K hK; go_big_quiet_op; go_big_quiet_on) | (refine Pr.wpG_skip rfl ?_; simp only [Act.put, List.setIfInBounds_toArray, List.set_cons_zero, List.set_cons_succ]))
    refine Pr.wpG_make (SlN X #[I p.b.w2] 3 1) rfl rfl (fun w' hw' hk => ?_) (fun u hu => ?_)
    · unfold Pr.grows
      go_simp
      exact slp_grow HL.out.1 HL.out.2 HVL.out hw'
    obtain ⟨_, _, TB, rfl, _, _⟩ := hu
    simp only [Act.put, List.setIfInBounds_toArray, List.set_cons_zero, List.set_cons_succ]
    repeat (first | (refine Pr.wpG_one rfl rfl rfl ?_; intro K hK; go_big_quiet_op; go_big_quiet_on) | (refine Pr.wpG_skip rfl ?_; simp only [Act.put, List.setIfInBounds_toArray, List.set_cons_zero, List.set_cons_succ]))
    refine Pr.wpG_nil (fun w5 hw5 hG => ?_)
    have hO1 := hG.1.2.now
    have hB1 := hG.2.now.at
    have hgr := HL.out.2 _ _ hw5.le
    have hg9 := HSX.out.grown hgr
    clear hG hw5 y0 y1 y2 y3 HL HAP HVL rX HCN
    refine Dl.wpTailH_cons ?_
    refine wp_app_ownF _ _ 33 rfl (b3 + 1) 3 i0 (I 0) 1 8 Tryz.underlying33 hi0 iz0 iz1 iz2 rfl (by decide) vb _ _ rfl hg9.2.1 ⟨TB, 0, none⟩ 1 [I p.b.w2] rfl rfl (news_lit hB1.1) (by simp [Value.oneCell']) (by have := flK_len p 2; omega) (by decide) (by have := lt_of_row hg9.1; omega) (fun vb2 w6 hO2 hg6 hOb2 => ⟨trivial, ?_⟩)
    obtain ⟨SA, sn, sc, rfl⟩ := own_slice hO1.1
    obtain ⟨TA, tn, tc, rfl⟩ := own_slice hO2
    have HFIN := Lib.hid (HSX.out.done hgr hO1.1 hO1.2 hO2 hg6 hOb2 hfk.out)
    have hrow6 : w6.heap[b3]? = some (.cells #[I f.n, I f.d, va, vb] 106 (0, 0)) := (hg6.block b3 (lt_of_row hg9.1) (fun e => by have := (HSX.out.ob.lt _ e.symm).1; omega)).trans hg9.1
    have hrow7 := rs hrow6 2 (.slice SA sn sc)
    have z2 : w6.cell? ⟨b3, 2, none⟩ = some va := by rw [cell_of_row _ _ _ _ _ _ hrow6]; rfl
    have f2 := frozen_of_row _ _ 2 _ _ hrow6
    have z3 : (w6.setCell ⟨b3, 2, none⟩ (.slice SA sn sc)).cell? ⟨b3, 3, none⟩ = some vb := by rw [cell_of_row _ _ _ _ _ _ hrow7]; rfl
    have f3 := frozen_of_row _ _ 3 _ _ hrow7
    clear hO1 hB1 hgr hg9 hO2 hg6 hOb2 hrow6 hrow7 hfk HSX
    refine Dl.wpTailH_cons ?_
    unfold Oper.wp
    go_simp
    refine Dl.wpTailH_cons ?_
    unfold Oper.wp
    go_simp
    refine Dl.wpTailH_cons ?_
    unfold Oper.wp
    go_simp
    refine Dl.wpTailH_nil ?_
    (try simp only [Act.put])
    go_wp2_with fail
    go_roundw
    case rel => exact ⟨3, _, _, by omega, by go_num, HFIN.out⟩
    case measure => simp [intOf]
  · rw [show ((3 : Nat) : Int) = 3 from rfl]
    have hix := @ixp3
    rename World => Y
    have HSY := Lib.hid hst
    clear hst
    go_upto_region 7 with fail
    clear hix
    obtain ⟨X, hX⟩ : ∃ X, X = Y.alloc (.cells (ptA p.b.d) 96) := ⟨_, rfl⟩
    have HSX : Hid (FlSt w b3 q f p 3 va vb X) := HSY.out.below (by rw [hX]; exact (Below.refl _ _).alloc (Nat.le_refl _) _)
    obtain ⟨c, hc⟩ : ∃ c, c = Y.heap.size := ⟨_, rfl⟩
    have rX : X.heap[c]? = some (.cells (ptA p.b.d) 96 (0, 0)) := by rw [hX]; exact heap_last _ _ _ hc
    have HCN : Hid (some c ≠ va.ownBlock) := fun e => by have := (HSY.out.oa.lt c e.symm).2; omega
    rw [← hc, ← hX]
    clear hX hc HSY
    have cw : X.cell? ⟨q, 15, none⟩ = some (I p.b.w3) := by rw [cell_of_row _ _ _ _ _ _ HSX.out.rp]; rfl
    by_cases hw0 : p.b.w3 = 0
    · have d0 : (p.b.w3 != 0) = false := by simp [hw0]
      have hfk : Hid (flKF p 4 = flKF p 3) := by show (if wtF p 3 = 0 then _ else _) = _; rw [show wtF p 3 = p.b.w3 from rfl, if_pos hw0]
      go_wp2_with fail
      go_roundw
      case rel => exact ⟨4, va, vb, by omega, by go_num, HSX.out.next hfk.out⟩
      case measure => simp [intOf]
    have d0 : (p.b.w3 != 0) = true := by simp [hw0]
    have hfk : Hid (flKF p 4 = ((flKF p 3).1 ++ [(p.b.d.at_ : Int)], (flKF p 3).2 ++ [p.b.w3])) := by show (if wtF p 3 = 0 then _ else _) = _; rw [show wtF p 3 = p.b.w3 from rfl, if_neg hw0]; rfl
    clear hw0
    go_upto_region 8 with fail
    have hlen := flK_len p 3
    obtain ⟨i0, hi0, iz0, iz1, iz2⟩ := info_parts int9b_info
    obtain ⟨L, hL1, hL2, happ⟩ := app_pre (P := Tryz.prog) 33 33 3 i0 (I 0) 1 8 Tryz.underlying33 hi0 iz0 iz1 iz2 rfl (by decide) X (b3 + 1) va _ _ HSX.out.oa (by have := lt_of_row HSX.out.row; omega) [I (p.b.d.at_ : Int)] rfl (by simp [Value.oneCell']) (by omega) (by decide)
    have hvl := HSX.out.oa.lt
    have nb3 : some b3 ≠ va.ownBlock := fun e => by have := (hvl _ e.symm).1; omega
    have nq : some q ≠ va.ownBlock := fun e => by have := (hvl _ e.symm).1; have := HSX.out.lt; omega
    have y0 := pl_cell hL2 (show X.cell? ⟨b3, 2, none⟩ = some va by rw [cell_of_row _ _ _ _ _ _ HSX.out.row]; rfl) nb3
    have y1 := pl_cell hL2 (show X.cell? ⟨b3, 3, none⟩ = some vb by rw [cell_of_row _ _ _ _ _ _ HSX.out.row]; rfl) nb3
    have y2 := pl_cell hL2 (show X.cell? ⟨c, 0, none⟩ = some (I (p.b.d.at_ : Int)) by rw [cell_of_row _ _ _ _ _ _ rX]; rfl) HCN.out
    have y3 := pl_cell hL2 cw nq
    have HL := Lib.hid (And.intro hL1 hL2)
    have HAP := Lib.hid happ
    have HVL : Hid (∀ k, va.ownBlock = some k → k < X.heap.size) := fun k hk => (hvl k hk).2
    clear hlen hvl nb3 nq cw hL1 hL2 happ
    refine Pr.wp_region_plate 16 L 17 [16] (fun j => if j = 4 then some (SlN X #[I (p.b.d.at_ : Int)] 3 1) else if j = 5 then some (fun u w => w.ownsRow (b3 + 1) 3 1 u ((flKF p 3).1.length + 1) ((flKF p 3).1.map (fun x => I x) ++ [I (p.b.d.at_ : Int)]) ∧ (u.ownBlock = va.ownBlock ∨ ∃ k, u.ownBlock = some k ∧ X.heap.size ≤ k)) else if j = 15 then some (SlN X #[I p.b.w3] 3 1) else none) (HL.out.1 _ _ (Below.refl _ _).drew) (by kernel_rfl) (by kernel_rfl) (by kernel_rfl) (by kernel_rfl) (by kernel_rfl) (by kernel_rfl) (by kernel_rfl) (fun t ht => by simp only [List.mem_cons, List.not_mem_nil, or_false] at ht; rcases ht with rfl; rfl) (fun c a d v w h => by cases d <;> exact h) (fun i hi oi ho ρ v w1 w2 he => by simp only [List.mem_cons, List.not_mem_nil, or_false] at hi; subst hi; have hop := congrArg (Option.map Oper.op) ho; change some (Op.fieldAddr 106 (.tmp 3) 1) = some oi.op at hop; exact field_still (Option.some.inj hop).symm he) ?_
    simp only [Pr.permL, Pr.ren, Pr.sw, List.map_cons, List.map_nil, List.map_toArray, List.take_succ_cons, List.take_zero, List.drop_succ_cons, List.drop_zero, List.cons_append, List.nil_append, Nat.reduceAdd, Nat.reduceEqDiff, eq_self, ↓reduceIte]
    repeat (first | (refine Pr.wpG_one rfl rfl rfl ?_; intro K hK; go_big_quiet_op; go_big_quiet_on) | (refine Pr.wpG_skip rfl ?_; simp only [Act.put, List.setIfInBounds_toArray, List.set_cons_zero, List.set_cons_succ]))
    refine Pr.wpG_make (SlN X #[I (p.b.d.at_ : Int)] 3 1) rfl rfl (fun w' hw' hk => ?_) (fun u hu => ?_)
    · unfold Pr.grows
      go_simp
      exact slp_grow HL.out.1 HL.out.2 HVL.out hw'
    obtain ⟨_, _, SB, rfl, _, _⟩ := hu
    simp only [Act.put, List.setIfInBounds_toArray, List.set_cons_zero, List.set_cons_succ]
    repeat (first | (refine Pr.wpG_one rfl rfl rfl ?_; intro K hK; go_big_quiet_op; go_big_quiet_on) | (refine Pr.wpG_skip rfl ?_; simp only [Act.put, List.setIfInBounds_toArray, List.set_cons_zero, List.set_cons_succ]))
    refine Pr.wpG_make (fun u w => w.ownsRow (b3 + 1) 3 1 u ((flKF p 3).1.length + 1) ((flKF p 3).1.map (fun x => I x) ++ [I (p.b.d.at_ : Int)]) ∧ (u.ownBlock = va.ownBlock ∨ ∃ k, u.ownBlock = some k ∧ X.heap.size ≤ k)) rfl rfl (fun w' hw' hk => ?_) (fun u hu => ?_)
    · have h4 := (hk ⟨4, .data⟩ (by simp) rfl _ _ _ rfl rfl rfl (by simp) rfl).now.at
      obtain ⟨v', w1, e1, e2, e3⟩ := HAP.out w' hw' ⟨SB, 0, none⟩ 1 (news_lit h4.1)
      exact app_grows _ _ 33 rfl va _ v' rfl rfl w1 e1 e2 e3
    obtain ⟨va2, rfl⟩ : ∃ v, v = u := ⟨_, rfl⟩
    clear hu
    simp only [Act.put, List.setIfInBounds_toArray, List.set_cons_zero, List.set_cons_succ]
    repeat (first | (refine Pr.wpG_one rfl rfl rfl ?_; intro K hK; go_big_quiet_op; go_big_quiet_on) | (refine Pr.wpG_skip rfl ?_; simp only [Act.put, List.setIfInBounds_toArray, List.set_cons_zero, List.set_cons_succ]))
    refine Pr.wpG_make (SlN X #[I p.b.w3] 3 1) rfl rfl (fun w' hw' hk => ?_) (fun u hu => ?_)
    · unfold Pr.grows
      go_simp
      exact slp_grow HL.out.1 HL.out.2 HVL.out hw'
    obtain ⟨_, _, TB, rfl, _, _⟩ := hu
    simp only [Act.put, List.setIfInBounds_toArray, List.set_cons_zero, List.set_cons_succ]
    repeat (first | (refine Pr.wpG_one rfl rfl rfl ?_; intro K hK; go_big_quiet_op; go_big_quiet_on) | (refine Pr.wpG_skip rfl ?_; simp only [Act.put, List.setIfInBounds_toArray, List.set_cons_zero, List.set_cons_succ]))
    refine Pr.wpG_nil (fun w5 hw5 hG => ?_)
    have hO1 := hG.1.2.now
    have hB1 := hG.2.now.at
    have hgr := HL.out.2 _ _ hw5.le
    have hg9 := HSX.out.grown hgr
    clear hG hw5 y0 y1 y2 y3 HL HAP HVL rX HCN
    refine Dl.wpTailH_cons ?_
    refine wp_app_ownF _ _ 33 rfl (b3 + 1) 3 i0 (I 0) 1 8 Tryz.underlying33 hi0 iz0 iz1 iz2 rfl (by decide) vb _ _ rfl hg9.2.1 ⟨TB, 0, none⟩ 1 [I p.b.w3] rfl rfl (news_lit hB1.1) (by simp [Value.oneCell']) (by have := flK_len p 3; omega) (by decide) (by have := lt_of_row hg9.1; omega) (fun vb2 w6 hO2 hg6 hOb2 => ⟨trivial, ?_⟩)
    obtain ⟨SA, sn, sc, rfl⟩ := own_slice hO1.1
    obtain ⟨TA, tn, tc, rfl⟩ := own_slice hO2
    have HFIN := Lib.hid (HSX.out.done hgr hO1.1 hO1.2 hO2 hg6 hOb2 hfk.out)
    have hrow6 : w6.heap[b3]? = some (.cells #[I f.n, I f.d, va, vb] 106 (0, 0)) := (hg6.block b3 (lt_of_row hg9.1) (fun e => by have := (HSX.out.ob.lt _ e.symm).1; omega)).trans hg9.1
    have hrow7 := rs hrow6 2 (.slice SA sn sc)
    have z2 : w6.cell? ⟨b3, 2, none⟩ = some va := by rw [cell_of_row _ _ _ _ _ _ hrow6]; rfl
    have f2 := frozen_of_row _ _ 2 _ _ hrow6
    have z3 : (w6.setCell ⟨b3, 2, none⟩ (.slice SA sn sc)).cell? ⟨b3, 3, none⟩ = some vb := by rw [cell_of_row _ _ _ _ _ _ hrow7]; rfl
    have f3 := frozen_of_row _ _ 3 _ _ hrow7
    clear hO1 hB1 hgr hg9 hO2 hg6 hOb2 hrow6 hrow7 hfk HSX
    refine Dl.wpTailH_cons ?_
    unfold Oper.wp
    go_simp
    refine Dl.wpTailH_cons ?_
    unfold Oper.wp
    go_simp
    refine Dl.wpTailH_cons ?_
    unfold Oper.wp
    go_simp
    refine Dl.wpTailH_nil ?_
    (try simp only [Act.put])
    go_wp2_with fail
    go_roundw
    case rel => exact ⟨4, _, _, by omega, by go_num, HFIN.out⟩
    case measure => simp [intOf]
  · rw [show ((4 : Nat) : Int) = 4 from rfl]
    rename World => Y
    obtain ⟨SA, sc, rfl, hs1, hs2, _⟩ := hst.oa.rd
    obtain ⟨TA, tc, rfl, ht1, ht2, _⟩ := hst.ob.rd
    have hcs := hst.r2
    have HE := Lib.hid (And.intro hst (And.intro (And.intro hs1 hs2) (And.intro ht1 ht2)))
    have HR2 := Lib.hid hcs
    clear hst hs1 hs2 ht1 ht2 hcs
    go_wp2_with (first | (with_reducible show wpList _ _ _ _ _ _; refine wpList_load_row9 rfl 106 _ rfl b3 rfl _ _ _ _ HE.out.1.row Tryz.underlying106 rfl (by kernel_rfl) ?_) | (with_reducible show wpList _ _ _ _ _ _; refine wpList_store_row rfl 106 _ _ rfl w.heap.size rfl _ _ HR2.out #[I f.n, I f.d, .slice SA (flKF p 4).1.length sc, .slice TA (flKF p 4).2.length tc] rfl (by simp [Value.oneCell']) rfl (by kernel_rfl) ?_))
    obtain ⟨hst, hs, ht⟩ := HE.out
    have hgw : Y.grownBy (Y.setRow w.heap.size #[I f.n, I f.d, .slice SA (flKF p 4).1.length sc, .slice TA (flKF p 4).2.length tc]) (some w.heap.size) := ⟨rfl, rfl, rfl, by rw [setRow_size]; exact Nat.le_refl _, fun k _ hk => Go.Proofs.YtliolnfcgaflcaaGreat.setRow_other (fun e => hk (by rw [e]))⟩
    have oa := own_otherF hst.oa hgw (fun b hb e => by have := (hst.oa.lt b hb).1; have := hst.lt.2; injection e with e; omega)
    have ob := own_otherF hst.ob hgw (fun b hb e => by have := (hst.ob.lt b hb).1; have := hst.lt.2; injection e with e; omega)
    obtain ⟨_, _, e1, _, _, r1⟩ := OwnI.rd oa
    obtain ⟨_, _, e2, _, _, r2⟩ := OwnI.rd ob
    injection e1 with e1a e1b e1c
    injection e2 with e2a e2b e2c
    subst e1a e2a
    refine bodyPost_ret (results_cell_only rfl _ _ (w.heap.size) 106 _ (0, 0) _ rfl (setRow_same (HR2.out)) Tryz.underlying106 rfl (by kernel_rfl)) rfl ?_
    rw [HD.out.1, HD.out.2]
    exact ⟨⟨_, _, _, _, rfl, hs.1, hs.2, ht.1, ht.2, r1, r2, fun a h => by have := own_low oa a h; have := hst.lt; omega, fun a h => by have := own_low ob a h; have := hst.lt; omega⟩, below_setRow hst.bw (Nat.le_refl _) _⟩
end Go.Proofs.YtliolnfcgaflcaaGreat.Un
