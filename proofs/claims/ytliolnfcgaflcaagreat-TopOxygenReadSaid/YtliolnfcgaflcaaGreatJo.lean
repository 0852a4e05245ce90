/- Lists of one's own: what append onto the empty literal returns; ownInts, ownRanges, ownKnots. -/
import Derived.Test.YtliolnfcgaflcaaGreatU5
import Derived.ArgAppend
namespace Go.Proofs.YtliolnfcgaflcaaGreat.Un
open Go.RowKit
theorem Rd.flat_at {w : World} {sz n : Nat} {b o : Nat} {g : Nat → Nat → Value} (hc : ∀ k, k < n → ∀ j, j < sz → w.cell? ⟨b, o + k * sz + j, none⟩ = some (g k j)) (hsz : 0 < sz) :
 ∀ j u, (flat sz g n)[j]? = some u → w.cell? ((⟨b, o, none⟩ : Addr).add j) = some u := by
 intro j u hu
 have hj : j < n * sz := by have := (List.getElem?_eq_some_iff.1 hu).1; rwa [flat_len] at this
 have e : j = j / sz * sz + j % sz := by rw [Nat.mul_comm]; exact (Nat.div_add_mod j sz).symm
 have hk : j / sz < n := Nat.div_lt_of_lt_mul (by rw [Nat.mul_comm]; exact hj)
 have hm : j % sz < sz := Nat.mod_lt _ hsz
 have h1 := flat_get g hk hm
 rw [← e, hu] at h1
 have h2 : w.cell? ⟨b, o + j / sz * sz + j % sz, none⟩ = some (g (j / sz) (j % sz)) := hc _ hk _ hm
 rw [addr_add, show o + j = o + j / sz * sz + j % sz by omega, h2]
 exact h1.symm
theorem Rd.of_own_max {w : World} {base sz n : Nat} {e : TypeId} {v : Value} {g : Nat → Nat → Value} (h : w.ownsRow base e sz v n (flat sz g n)) : ∃ A c, v = .slice A n c ∧ n ≤ c ∧ c ≤ maxLen ∧ Rd w w.heap.size sz A n g := by
 obtain ⟨A, c, hv, hc, hr⟩ := Rd.of_own_cap h
 refine ⟨A, c, hv, hc, ?_, hr⟩
 rcases h.2 with ⟨rfl, rfl⟩ | ⟨q, cap, cur, rfl, hq, hh, hn, hm, hsz, ht⟩
 · injection hv with _ _ h3; subst h3; unfold maxLen; omega
 · injection hv with _ _ h3; subst h3; exact hm
theorem own_base {w : World} {base base' sz n : Nat} {e : TypeId} {v : Value} {xs : List Value} (h : w.ownsRow base e sz v n xs) (hb : base' ≤ base) : w.ownsRow base' e sz v n xs := by
 obtain ⟨h1, h2⟩ := h
 refine ⟨h1, ?_⟩
 rcases h2 with h2 | ⟨g, cap, cur, hv, hg, r⟩
 · exact .inl h2
 · exact .inr ⟨g, cap, cur, hv, by omega, r⟩
theorem run_app_lit {P : Program} (w : World) (t ty e : TypeId) (i : TypeInfo) (z : Value) (sz bytes : Nat) (ht : P.underlying t = some (.slice e)) (hi : P.info? e = some i) (hz : i.zero = some z) (hsz : i.size = sz) (hby : i.bytes = bytes) (hzs : z.cells.size = sz) (h0 : 0 < sz)
 (b : Nat) (A : Option Addr) (n c : Nat) (g : Nat → Nat → Value) (hr : Rd w w.heap.size sz A n g) (hn : n ≤ 1000000) (hb : bytes ≤ 1000000) :
 ∃ A' c' w', (Builtin.append_ #[t, t] ty #[.slice (some ⟨b, 0, none⟩) 0 0, .slice A n c]).run P w = .ok (.slice A' n c') w' ∧ Below w.heap.size w w' ∧ n ≤ c' ∧ c' ≤ maxLen ∧ Rd w' w'.heap.size sz A' n g := by
 by_cases hn0 : n = 0
 · subst hn0
   refine ⟨some ⟨b, 0, none⟩, 0, w, ?_, Below.refl _ _, Nat.le_refl _, by unfold maxLen; omega, Rd.nil⟩
   cases A <;> simp [go_sem, Builtin.append_, run_underlying ht, sizeOf, typeInfo, hi, Builtin.lenOf, Builtin.firstCells, storeCells]
 · obtain ⟨b2, o2, hA, _, hc⟩ := hr (by omega)
   subst hA
   have hm : n * bytes ≤ 1000000 * 1000000 := Nat.mul_le_mul hn hb
   obtain ⟨v', w', hrun, hown, hgr⟩ := run_append_arg_grows (P := P) w t ty e i z sz bytes ht hi hz hsz hby hzs h0 ⟨b, 0, none⟩ 0 0 [] (by simp) (fun j u hu => by simp at hu) ⟨b2, o2, none⟩ n c (flat sz g n) (flat_len _ _ _) (Rd.flat_at hc h0) (by omega) (by unfold maxLen; omega) (by rw [Nat.zero_add]; omega)
   rw [Nat.zero_add, List.nil_append] at hown
   obtain ⟨A', c', hv, hnc, hcm, hrd⟩ := Rd.of_own_max hown
   subst hv
   exact ⟨A', c', w', hrun, (Below.refl _ _).grown hgr (Nat.le_refl _) (fun g hg => by cases hg), hnc, hcm, hrd⟩
theorem wpList_app_lit {P : Program} {ops : Array Oper} {rest : List Oper} {o : Oper} {a : Act} {w : World} {Q : Exit → Act → World → Prop} (hg : o.guard = none) (s x : Operand) (t : TypeId) (ho : o.op = .call { callee := .builtin .append, args := #[s, x], argTypes := #[t, t] })
 (e : TypeId) (i : TypeInfo) (z : Value) (sz bytes : Nat) (ht : P.underlying t = some (.slice e)) (hi : P.info? e = some i) (hz : i.zero = some z) (hsz : i.size = sz) (hby : i.bytes = bytes) (hzs : z.cells.size = sz) (h0 : 0 < sz)
 (b : Nat) (hs : a.eval s = .slice (some ⟨b, 0, none⟩) 0 0) (A : Option Addr) (n c : Nat) (hx : a.eval x = .slice A n c) (g : Nat → Nat → Value) (hr : Rd w w.heap.size sz A n g) (hn : n ≤ 1000000) (hb : bytes ≤ 1000000)
 (hK : ∀ A' c' w', n ≤ c' → c' ≤ maxLen → Rd w' w'.heap.size sz A' n g → Below w.heap.size w w' → wpList P ops Q rest (a.put o.dst (.slice A' n c')) w') : wpList P ops Q (o :: rest) a w := by
 refine wpList_plain hg fun K hK' => ?_
 obtain ⟨A', c', w', hrun, h1, h2, h3, h4⟩ := run_app_lit (P := P) w t o.type e i z sz bytes ht hi hz hsz hby hzs h0 b A n c g hr hn hb
 unfold Oper.wp
 simp [execOp, ho, resolve, invoke, builtin, hs, hx, hrun, Result.andThen]
 exact hK' _ _ (hK A' c' w' h2 h3 h4 h1)
theorem below_chain {X Y Z : World} (h : ∀ u, Below X.heap.size X (ovr Y u)) (h2 : ∀ u, Below Y.heap.size Y (ovr Z u)) : ∀ u, Below X.heap.size X (ovr Z u) := fun u => by
 obtain ⟨v, hv⟩ := ovr_self Y
 have := h v
 rw [← hv] at this
 exact this.trans ((h2 u).mono this.size)
theorem below_self {X Y : World} (h : ∀ u, Below X.heap.size X (ovr Y u)) : Below X.heap.size X Y := by
 obtain ⟨v, hv⟩ := ovr_self Y
 have := h v
 rwa [← hv] at this
def RetLc (w : World) (sz n : Nat) (g : Nat → Nat → Value) (e : Ending) (w' : World) : Prop := ∃ A c, e = .returned (.slice A n c) ∧ n ≤ c ∧ c ≤ maxLen ∧ Rd w' w'.heap.size sz A n g ∧ Below w.heap.size w w'
theorem intK_info : (Tryz.prog.info? 3).map (fun i => (i.zero, i.size, i.bytes)) = some (some (I 0), 1, 8) := by kernel_rfl
def SoC (e : TypeId) (sz B n : Nat) (olds : List Value) (v : Value) (w : World) : Prop := (n = 0 ∧ olds = [] ∧ ∃ b, v = .slice (some ⟨b, 0, none⟩) 0 0) ∨ w.ownsRow B e sz v n olds
theorem SoC.over {e : TypeId} {sz B n : Nat} {l : List Value} {v : Value} {w w' : World} (h : SoC e sz B n l v w) (hb : Below w.heap.size w w') : SoC e sz B n l v w' := h.imp id fun ho => own_below ho hb
theorem SoC.rd {e : TypeId} {sz B n : Nat} {g : Nat → Nat → Value} {v : Value} {w : World} (h : SoC e sz B n (flat sz g n) v w) : ∃ A c, v = .slice A n c ∧ n ≤ c ∧ c ≤ maxLen ∧ Rd w w.heap.size sz A n g := by
 rcases h with ⟨rfl, _, b, rfl⟩ | ho
 · exact ⟨_, _, rfl, Nat.le_refl _, by unfold maxLen; omega, Rd.nil⟩
 · exact Rd.of_own_max ho
theorem run_app_soc {P : Program} (w : World) (t ty : TypeId)
 (e : TypeId) (i : TypeInfo) (z : Value) (sz bytes : Nat) (h1 : P.underlying t = some (.slice e)) (h2 : P.info? e = some i) (h3 : i.zero = some z) (h4 : i.size = sz) (h5 : i.bytes = bytes) (h6 : z.cells.size = sz) (h7 : 0 < sz)
 {B n : Nat} {olds : List Value} {v : Value} (hso : SoC e sz B n olds v w) (ad : Addr) (c : Nat) (news : List Value) (hnl : news.length = sz)
 (hc : ∀ j u, news[j]? = some u → w.cell? (ad.add j) = some u) (h1c : ∀ u ∈ news, u.oneCell' = true) (hB : B ≤ w.heap.size) (hl : n ≤ 1000000) (hb : bytes ≤ 1000) :
 ∃ v' w', (Builtin.append_ #[t, t] ty #[v, .slice (some ad) 1 c]).run P w = .ok v' w' ∧ SoC e sz B (n + 1) (olds ++ news) v' w' ∧ Below B w w' := by
 have hm : (n + 1) * bytes ≤ 1000001 * 1000 := Nat.mul_le_mul (by omega) hb
 rcases hso with ⟨rfl, rfl, b, rfl⟩ | ho
 · obtain ⟨v', w', hrun, hown, hgr⟩ := run_append_arg_grows (P := P) w t ty e i z sz bytes h1 h2 h3 h4 h5 h6 h7 ⟨b, 0, none⟩ 0 0 [] (by simp) (fun j u hu => by simp at hu) ad 1 c news (by rw [hnl, Nat.one_mul]) hc (by omega) (by unfold maxLen; omega) (by simp only [Nat.zero_add] at hm ⊢; omega)
   refine ⟨v', w', hrun, .inr ?_, (Below.refl _ _).grown hgr hB (fun k hk => by cases hk)⟩
   have := own_base hown hB
   simpa using this
 · obtain ⟨v', w', hrun, hown, hgr, _⟩ := run_append_own (P := P) w B t ty e i z sz bytes h1 h2 h3 h4 h5 h6 h7 v n olds ho ad 1 c news (by rw [hnl, Nat.one_mul]) hc h1c (by unfold maxLen; omega) (by omega) hB
   exact ⟨v', w', hrun, .inr hown, (Below.refl _ _).grown hgr hB (fun k hk => (ho.lt k hk).1)⟩
theorem wp_app_soc {P : Program} {o : Oper} {a : Act} {w : World} {K : Act → World → Prop} {Q : Exit → Act → World → Prop} (s x : Operand) (t : TypeId) (ho : o.op = .call { callee := .builtin .append, args := #[s, x], argTypes := #[t, t] })
 (e : TypeId) (i : TypeInfo) (z : Value) (sz bytes : Nat) (h1 : P.underlying t = some (.slice e)) (h2 : P.info? e = some i) (h3 : i.zero = some z) (h4 : i.size = sz) (h5 : i.bytes = bytes) (h6 : z.cells.size = sz) (h7 : 0 < sz)
 (B n : Nat) (olds : List Value) (v : Value) (hs : a.eval s = v) (hso : SoC e sz B n olds v w) (ad : Addr) (c : Nat) (news : List Value) (hx : a.eval x = .slice (some ad) 1 c) (hnl : news.length = sz)
 (hc : ∀ j u, news[j]? = some u → w.cell? (ad.add j) = some u) (h1c : ∀ u ∈ news, u.oneCell' = true) (hB : B ≤ w.heap.size) (hl : n ≤ 1000000) (hb : bytes ≤ 1000)
 (h : ∀ v' w', SoC e sz B (n + 1) (olds ++ news) v' w' → Below B w w' → K (a.put o.dst v') w') : o.wp P a w K Q := by
 obtain ⟨v', w', hr, h8, h9⟩ := run_app_soc (P := P) w t o.type e i z sz bytes h1 h2 h3 h4 h5 h6 h7 hso ad c news hnl hc h1c hB hl hb
 unfold Oper.wp execOp
 simp only [ho, resolve, invoke, builtin, Sem.run_bind, Sem.run_pure, Result.andThen_ok, List.map_toArray, List.map_cons, List.map_nil, hs, hx, hr]
 exact h v' w' h8 h9
theorem wpList_app_soc {P : Program} {ops : Array Oper} {rest : List Oper} {o : Oper} {a : Act} {w : World} {Q : Exit → Act → World → Prop} (hg : o.guard = none) (s x : Operand) (t : TypeId) (ho : o.op = .call { callee := .builtin .append, args := #[s, x], argTypes := #[t, t] })
 (e : TypeId) (i : TypeInfo) (z : Value) (sz bytes : Nat) (h1 : P.underlying t = some (.slice e)) (h2 : P.info? e = some i) (h3 : i.zero = some z) (h4 : i.size = sz) (h5 : i.bytes = bytes) (h6 : z.cells.size = sz) (h7 : 0 < sz)
 (B n : Nat) (olds : List Value) (v : Value) (hs : a.eval s = v) (hso : SoC e sz B n olds v w) (ad : Addr) (c : Nat) (news : List Value) (hx : a.eval x = .slice (some ad) 1 c) (hnl : news.length = sz)
 (hc : ∀ j u, news[j]? = some u → w.cell? (ad.add j) = some u) (h1c : ∀ u ∈ news, u.oneCell' = true) (hB : B ≤ w.heap.size) (hl : n ≤ 1000000) (hb : bytes ≤ 1000)
 (h : ∀ v' w', SoC e sz B (n + 1) (olds ++ news) v' w' → Below B w w' → wpList P ops Q rest (a.put o.dst v') w') : wpList P ops Q (o :: rest) a w :=
 wpList_plain hg fun _ hK => wp_app_soc s x t ho e i z sz bytes h1 h2 h3 h4 h5 h6 h7 B n olds v hs hso ad c news hx hnl hc h1c hB hl hb fun v' w' h8 h9 => hK _ _ (h v' w' h8 h9)
theorem ints_flat (l : List Int) : (l.map fun x => I x) = flat 1 (rI l) l.length := by
 apply List.ext_getElem?
 intro i
 by_cases hi : i < l.length
 · have h := flat_get (sz := 1) (n := l.length) (k := i) (j := 0) (rI l) hi (by omega)
   rw [Nat.mul_one, Nat.add_zero] at h
   rw [h, List.getElem?_map, List.getElem?_eq_getElem hi]
   simp [rI, at0_get hi]
 · rw [List.getElem?_eq_none (by simpa using hi), List.getElem?_eq_none (by rw [flat_len]; omega)]
end Go.Proofs.YtliolnfcgaflcaaGreat.Un
