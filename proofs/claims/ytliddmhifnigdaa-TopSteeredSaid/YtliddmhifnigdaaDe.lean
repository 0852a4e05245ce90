/- Lists under way within regions: laws of one step. -/
import Derived.Test.YtliddmhifnigdaaDd
import Derived.Test.YtliddmhifnigdaaU5
import Derived.Test.YtliddmhifnigdaaJo
import Derived.Test.YtliddmhifnigdaaSqf
import Derived.Maps.AppendAt
namespace Go.Proofs.Ytliddmhifnigdaa.Un
open Go.RowKit
theorem wp_app_own {P : Program} {o : Oper} {a : Act} {w : World} {K : Act → World → Prop} {Q : Exit → Act → World → Prop} (s x : Operand) (t : TypeId) (ho : o.op = .call { callee := .builtin .append, args := #[s, x], argTypes := #[t, t] })
    (base : Nat) (e : TypeId) (i : TypeInfo) (z : Value) (size bytes : Nat) (ht : P.underlying t = some (.slice e)) (hi : P.info? e = some i) (hz : i.zero = some z) (hsize : i.size = size) (hby : i.bytes = bytes) (hzs : z.cells.size = size) (hsz : 0 < size)
    (v : Value) (n : Nat) (xs : List Value) (hs : a.eval s = v) (hown : w.ownsRow base e size v n xs) (ad : Addr) (c : Nat) (news : List Value) (hx : a.eval x = .slice (some ad) 1 c) (hl : news.length = size) (hnews : ∀ j u, news[j]? = some u → w.cell? (ad.add j) = some u) (h1 : ∀ u ∈ news, u.oneCell' = true)
    (hn : n ≤ 1000000) (hb : bytes ≤ 1000) (hbase : base ≤ w.heap.size)
    (h : ∀ v' w', w'.ownsRow base e size v' (n + 1) (xs ++ news) → w.grownBy w' v.ownBlock → (v'.ownBlock = v.ownBlock ∨ v'.ownBlock = some w.heap.size) → K (a.put o.dst v') w') : o.wp P a w K Q := by
  have hm : (n + 1) * bytes ≤ 1000001 * 1000 := Nat.mul_le_mul (by omega) hb
  obtain ⟨v', w', hr, h2, h3, h4, h5⟩ := run_append_own_at (P := P) w base t o.type e i z size bytes ht hi hz hsize hby hzs hsz v n xs hown ad 1 c news (by rw [hl, Nat.one_mul]) hnews h1 (by unfold maxLen; omega) (by omega) hbase
  unfold Oper.wp execOp
  simp only [ho, resolve, invoke, builtin, Sem.run_bind, Sem.run_pure, Result.andThen_ok, List.map_toArray, List.map_cons, List.map_nil, hs, hx, hr]
  exact h v' w' h2 h3 h5
theorem own_other {w w' : World} {base n sz : Nat} {e : TypeId} {v : Value} {xs : List Value} (h : w.ownsRow base e sz v n xs) {row : Option Nat} (hg : w.grownBy w' row) (hne : ∀ b, v.ownBlock = some b → row ≠ some b) : w'.ownsRow base e sz v n xs := by
  refine ⟨h.1, ?_⟩
  rcases h.2 with h1 | ⟨b, cap, cur, rfl, h1, h2, h3⟩
  · exact .inl h1
  · exact .inr ⟨b, cap, cur, rfl, h1, (hg.block b (Array.getElem?_eq_some_iff.1 h2).1 (fun he => hne b rfl he.symm)).trans h2, h3⟩
theorem own_set {w : World} {base n sz q : Nat} {e : TypeId} {v : Value} {xs : List Value} (h : w.ownsRow base e sz v n xs) (hq : q < base) (cs : Array Value) : (w.setRow q cs).ownsRow base e sz v n xs := by
  refine ⟨h.1, ?_⟩
  rcases h.2 with h1 | ⟨b, cap, cur, rfl, h1, h2, h3⟩
  · exact .inl h1
  · exact .inr ⟨b, cap, cur, rfl, h1, (setRow_other (by omega)).trans h2, h3⟩
theorem own_hull {w : World} {base : Nat} {e : TypeId} {v : Value} {xs : List Rng} (h : w.ownsRow base e 2 v xs.length (rc xs)) : ∃ A c, v = .slice A xs.length c ∧ xs.length ≤ c ∧ c ≤ maxLen ∧ Rd w w.heap.size 2 A xs.length (rR xs) := by
  rw [rc_flat] at h
  exact Rd.of_own_max h
/-- Two lists of one's own that lie apart. -/
def Apart (x y : Value) : Prop := ∀ b, y.ownBlock = some b → x.ownBlock ≠ some b
theorem Apart.symm {x y : Value} (h : Apart x y) : Apart y x := fun b hb he => h b he hb
/-- A new block of a slice of one element. -/
def SlNew (w0 : World) (cs : Array Value) (t : TypeId) (u : Value) (w : World) : Prop := ∃ b, u = .slice (some ⟨b, 0, none⟩) 1 1 ∧ w.heap[b]? = some (.cells cs t (0, 0)) ∧ w0.heap.size ≤ b
theorem slnew_grow {w0 w : World} {cs : Array Value} {t : TypeId} (h : Cl w0 w) : Le w (w.alloc (.cells cs t)) ∧ Box (SlNew w0 cs t) (.slice (some ⟨w.heap.size, 0, none⟩) 1 1) (w.alloc (.cells cs t)) :=
  ⟨(Below.refl _ _).alloc (Nat.le_refl _) _, fun _ h2 => ⟨_, rfl, (h2.block _ (by simp)).trans (heap_alloc_new w _), h.le.size⟩⟩
theorem SlNew.at {w0 w : World} {cs : Array Value} {t : TypeId} {b : Nat} (h : SlNew w0 cs t (.slice (some ⟨b, 0, none⟩) 1 1) w) : w.heap[b]? = some (.cells cs t (0, 0)) ∧ w0.heap.size ≤ b := by
  obtain ⟨b', e, h1, h2⟩ := h
  have : b = b' := by injection e with e1; injection e1 with e2; injection e2
  subst this
  exact ⟨h1, h2⟩
theorem below_self0 {w Y : World} (h : ∀ u, Below w.heap.size w (ovr Y u)) : Below w.heap.size w Y := by
  obtain ⟨v, hv⟩ := ovr_self Y
  have := h v
  rwa [← hv] at this
theorem below_chain0 {w Y w' : World} (h : ∀ u, Below w.heap.size w (ovr Y u)) (h2 : Below Y.heap.size Y w') : Below w.heap.size w w' := (below_self0 h).trans (h2.mono (below_self0 h).size)
theorem rng_info5 : (Try.prog.info? 23).map (fun i => (i.zero, i.size, i.bytes)) = some (some (.agg #[I 0, I 0]), 2, 16) := by kernel_rfl
theorem results_two_tmp {P : Program} {fn : Func} {p q t1 : Tmp} {ty ty' : TypeId} (h : fn.results = #[.cell p ty, .cell q ty', .tmp t1]) (tmps : Array Value) (w : World) (g g' : Nat) (t t' : TypeId) (cs cs' : Array Value) (fr fr' : Nat × Nat) (d d' : TypeDesc)
    (hp : tmps.getD p undef = .pointer (some ⟨g, 0, none⟩)) (hg : w.heap[g]? = some (.cells cs t fr)) (hq : tmps.getD q undef = .pointer (some ⟨g', 0, none⟩)) (hg' : w.heap[g']? = some (.cells cs' t' fr'))
    (hu : P.underlying ty = some d) (hd : (match d with | .struct _ | .array _ _ => true | _ => false) = true) (hi : (P.info? ty).map (·.size) = some cs.size)
    (hu' : P.underlying ty' = some d') (hd' : (match d' with | .struct _ | .array _ _ => true | _ => false) = true) (hi' : (P.info? ty').map (·.size) = some cs'.size) :
    (results fn tmps).run P w = .ok (.tuple #[.agg cs, .agg cs', tmps.getD t1 undef]) w := by
  have hp' : tmps[p]?.getD undef = .pointer (some ⟨g, 0, none⟩) := by simpa using hp
  have hq' : tmps[q]?.getD undef = .pointer (some ⟨g', 0, none⟩) := by simpa using hq
  simp [results, h, hp', hq', asAddr, run_loadVar_row w g t ty cs fr d hg hu hd hi, run_loadVar_row w g' t' ty' cs' fr' d' hg' hu' hd' hi', Sem.run_bind]
theorem ro2 {w : World} {k b i : Nat} {o : Obj} {v : Value} (h : w.heap[k]? = some o) (hne : k ≠ b) : (w.setCell ⟨b, i, none⟩ v).heap[k]? = some o := (heap_setCell_other w ⟨b, i, none⟩ k v hne).trans h
/-- Two stores of two cells each, and a draw. -/
theorem two_cells {X : World} {b1 b2 : Nat} {t1 t2 : TypeId} {x y x' y' : Value} (h1 : X.heap[b1]? = some (.cells #[x, y] t1 (0, 0))) (h2 : X.heap[b2]? = some (.cells #[x', y'] t2 (0, 0))) (hne : b1 ≠ b2) (p q r s : Value) {base : Nat} {a : World} (hb : Below base a X) (hb1 : base ≤ b1) (hb2 : base ≤ b2) :
    (((((X.setCell ⟨b1, 0, none⟩ p).setCell ⟨b1, 1, none⟩ q).setCell ⟨b2, 0, none⟩ r).setCell ⟨b2, 1, none⟩ s).drew).heap[b1]? = some (.cells #[p, q] t1 (0, 0)) ∧ (((((X.setCell ⟨b1, 0, none⟩ p).setCell ⟨b1, 1, none⟩ q).setCell ⟨b2, 0, none⟩ r).setCell ⟨b2, 1, none⟩ s).drew).heap[b2]? = some (.cells #[r, s] t2 (0, 0)) ∧ Below base a (((((X.setCell ⟨b1, 0, none⟩ p).setCell ⟨b1, 1, none⟩ q).setCell ⟨b2, 0, none⟩ r).setCell ⟨b2, 1, none⟩ s).drew) :=
  ⟨ro2 (ro2 (rs (rs h1 0 p) 1 q) hne) hne, rs (rs (ro2 (ro2 h2 hne.symm) hne.symm) 0 r) 1 s, ((((hb.setCell hb1 p).setCell hb1 q).setCell hb2 r).setCell hb2 s).drew⟩
end Go.Proofs.Ytliddmhifnigdaa.Un
