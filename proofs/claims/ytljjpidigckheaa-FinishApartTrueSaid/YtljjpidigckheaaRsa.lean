/- Two appends, one after another, onto a new row of integers within a drawn region: an order of worlds of its own. -/
import Derived.Test.YtljjpidigckheaaFra
import Derived.Test.YtljjpidigckheaaOas
namespace Go.Proofs.Ytljjpidigckheaa.Un
open Go.RowKit
/-- Blocks below B and those of other types stay; a row of type T keeps its length and its first m cells; the cell behind them stays or becomes x. -/
structure NwLe (B m : Nat) (T : TypeId) (x : Value) (w w' : World) : Prop where
  os : w'.os = w.os
  tape : w'.tape = w.tape
  output : w'.output = w.output
  size : w.heap.size ≤ w'.heap.size
  old : ∀ k : Nat, k < w.heap.size → (k < B ∨ ∀ (cs : Array Value) (fr : Nat × Nat), w.heap[k]? ≠ some (.cells cs T fr)) → w'.heap[k]? = w.heap[k]?
  row : ∀ (k : Nat) (cs : Array Value) (fr : Nat × Nat), w.heap[k]? = some (.cells cs T fr) → ∃ cs' : Array Value, w'.heap[k]? = some (.cells cs' T fr) ∧ cs'.size = cs.size ∧ (∀ j, j < m → cs'[j]? = cs[j]?) ∧ (cs'[m]? = cs[m]? ∨ cs'[m]? = some x)
theorem row_ltN {w : World} {k : Nat} {o : Obj} (h : w.heap[k]? = some o) : k < w.heap.size := (Array.getElem?_eq_some_iff.1 h).1
theorem NwLe.refl (B m : Nat) (T : TypeId) (x : Value) (w : World) : NwLe B m T x w w := ⟨rfl, rfl, rfl, Nat.le_refl _, fun _ _ _ => rfl, fun _ cs _ h => ⟨cs, h, rfl, fun _ _ => rfl, .inl rfl⟩⟩
theorem NwLe.trans {B m : Nat} {T : TypeId} {x : Value} {a b c : World} (h : NwLe B m T x a b) (h' : NwLe B m T x b c) : NwLe B m T x a c := by
  refine ⟨h'.os.trans h.os, h'.tape.trans h.tape, h'.output.trans h.output, Nat.le_trans h.size h'.size, fun k hk hd => ?_, fun k cs fr hr => ?_⟩
  · have e := h.old k hk hd
    rw [← e]
    refine h'.old k (Nat.lt_of_lt_of_le hk h.size) (hd.imp id fun h2 => ?_)
    rw [e]
    exact h2
  · obtain ⟨c1, e1, s1, f1, g1⟩ := h.row k cs fr hr
    obtain ⟨c2, e2, s2, f2, g2⟩ := h'.row k c1 fr e1
    refine ⟨c2, e2, s2.trans s1, fun j hj => (f2 j hj).trans (f1 j hj), ?_⟩
    rcases g2 with g2 | g2
    · rw [g2]; exact g1
    · exact .inr g2
theorem NwLe.of {B m : Nat} {T : TypeId} {x : Value} {a b : World} (h : Le a b) : NwLe B m T x a b :=
  ⟨Below.os h, Below.tape h, Below.output h, Below.size h, fun k hk _ => Below.block h k hk, fun k cs _ hr => ⟨cs, (Below.block h k (row_ltN hr)).trans hr, rfl, fun _ _ => rfl, .inl rfl⟩⟩
def NwP (B m : Nat) (T : TypeId) (x : Value) : Pr.Pre := ⟨NwLe B m T x, NwLe.refl B m T x, NwLe.trans⟩
theorem NwLe.below {m : Nat} {T : TypeId} {x : Value} {X w : World} (h : NwLe X.heap.size m T x X w) : Below X.heap.size X w := ⟨h.os, h.tape, h.output, h.size, fun k hk => h.old k hk (.inl hk)⟩
theorem nw_cell {m : Nat} {T : TypeId} {x : Value} {X : World} {b o : Nat} {v : Value} (h : X.cell? ⟨b, o, none⟩ = some v) : ∀ u, (Pr.ovl (NwP X.heap.size m T x) X u).cell? ⟨b, o, none⟩ = some v := fun u =>
  (NwLe.below (Pr.ovl_le (NwP X.heap.size m T x) X u)).cell (p := ⟨b, o, none⟩) (block_lt_of_cell h) |>.trans h
/-- The row of the one new element. -/
def NwOne (T : TypeId) (x : Value) (u : Value) (w : World) : Prop := ∃ b, u = .slice (some ⟨b, 0, none⟩) 1 1 ∧ ∃ cs fr, w.heap[b]? = some (.cells cs T fr) ∧ cs[0]? = some x
theorem NwOne.box {B m : Nat} {T : TypeId} {x u : Value} {w : World} (hm : 0 < m) (h : NwOne T x u w) : Pr.Box (NwP B m T x) (NwOne T x) u w := fun w' hl => by
  obtain ⟨b, hu, cs, fr, hr, h0⟩ := h
  obtain ⟨c1, e1, _, f1, _⟩ := NwLe.row hl b cs fr hr
  exact ⟨b, hu, c1, fr, e1, (f1 0 hm).trans h0⟩
theorem nwone_grow {B m : Nat} {T : TypeId} {x : Value} (w : World) (hm : 0 < m) : (NwP B m T x).le w (w.alloc (.cells #[x] T)) ∧ Pr.Box (NwP B m T x) (NwOne T x) (.slice (some ⟨w.heap.size, 0, none⟩) 1 1) (w.alloc (.cells #[x] T)) :=
  ⟨NwLe.of ((Below.refl _ _).alloc (Nat.le_refl _) _), NwOne.box hm ⟨_, rfl, #[x], _, heap_alloc_new w _, rfl⟩⟩
theorem NwOne.cell {T : TypeId} {x : Value} {b : Nat} {w : World} (h : NwOne T x (.slice (some ⟨b, 0, none⟩) 1 1) w) : w.cell? ⟨b, 0, none⟩ = some x := by
  obtain ⟨b', hu, cs, fr, hr, h0⟩ := h
  injection hu with e
  injection e with e
  injection e with e _
  subst e
  exact (cell_of_row _ _ 0 _ _ _ hr).trans h0
/-- A new block of another type. -/
def NwAt (cs : Array Value) (t : TypeId) (B : Nat) (u : Value) (w : World) : Prop := ∃ b, u = .pointer (some ⟨b, 0, none⟩) ∧ w.heap[b]? = some (.cells cs t (0, 0)) ∧ B ≤ b
theorem nwat_grow {m : Nat} {T t : TypeId} {x : Value} {cs : Array Value} {X w : World} (ht : t ≠ T) (h : Pr.Cl (NwP X.heap.size m T x) X w) :
    (NwP X.heap.size m T x).le w (w.alloc (.cells cs t)) ∧ Pr.Box (NwP X.heap.size m T x) (NwAt cs t X.heap.size) (.pointer (some ⟨w.heap.size, 0, none⟩)) (w.alloc (.cells cs t)) := by
  have hs : X.heap.size ≤ w.heap.size := NwLe.size (show NwLe X.heap.size m T x X w from h.le)
  refine ⟨NwLe.of ((Below.refl _ _).alloc (Nat.le_refl _) _), fun V hV => ⟨_, rfl, (NwLe.old hV _ (by simp) (.inr fun cs' fr he => ?_)).trans (heap_alloc_new w _), hs⟩⟩
  rw [heap_alloc_new] at he
  injection he with he
  injection he with _ h2
  exact ht h2
theorem NwAt.at {cs : Array Value} {t : TypeId} {B b : Nat} {w : World} (h : NwAt cs t B (.pointer (some ⟨b, 0, none⟩)) w) : w.heap[b]? = some (.cells cs t (0, 0)) ∧ B ≤ b := by
  obtain ⟨b', e, h1, h2⟩ := h
  have : b = b' := by injection e with e1; injection e1 with e2; injection e2
  subst this
  exact ⟨h1, h2⟩
/-- What the first append gives: the empty literal, or a row of one's own. -/
def NwRow (B : Nat) (T : TypeId) (n : Nat) (xs : List Value) (u : Value) (w : World) : Prop := (n = 0 ∧ xs = [] ∧ ∃ b, u = .slice (some ⟨b, 0, none⟩) 0 0) ∨ (0 < n ∧ w.ownsRow B T 1 u n xs)
theorem own_nw {B base n m : Nat} {T : TypeId} {x v : Value} {xs : List Value} {w w' : World} (h : w.ownsRow base T 1 v n xs) (hm : n ≤ m) (hl : NwLe B m T x w w') : w'.ownsRow base T 1 v n xs := by
  obtain ⟨h1, h2⟩ := h
  refine ⟨h1, ?_⟩
  rcases h2 with h2 | ⟨g, cap, cur, hv, hbg, hg, hnc, hcm, hcs, ht⟩
  · exact .inl h2
  · obtain ⟨c1, e1, s1, f1, _⟩ := hl.row g cur _ hg
    refine .inr ⟨g, cap, c1, hv, hbg, e1, hnc, hcm, s1.trans hcs, ?_⟩
    rw [← ht]
    apply List.ext_getElem?
    intro j
    rw [List.getElem?_take, List.getElem?_take]
    by_cases hj : j < n * 1
    · rw [if_pos hj, if_pos hj, Array.getElem?_toList, Array.getElem?_toList]
      exact f1 j (by omega)
    · rw [if_neg hj, if_neg hj]
theorem NwRow.box {B base n m : Nat} {T : TypeId} {x u : Value} {xs : List Value} {w : World} (hm : n ≤ m) (h : NwRow base T n xs u w) : Pr.Box (NwP B m T x) (NwRow base T n xs) u w := fun w' hl => by
  rcases h with h | ⟨h0, h⟩
  · exact .inl h
  · exact .inr ⟨h0, own_nw h hm hl⟩
theorem app1_nw {P : Program} {o : Oper} {a : Act} {w : World} (s x : Operand) (t : TypeId) (ho : o.op = .call { callee := .builtin .append, args := #[s, x], argTypes := #[t, t] })
    (e : TypeId) (i : TypeInfo) (z : Value) (bytes : Nat) (ht : P.underlying t = some (.slice e)) (hi : P.info? e = some i) (hz : i.zero = some z) (hsz : i.size = 1) (hby : i.bytes = bytes) (hzs : z.cells.size = 1)
    (b : Nat) (hs : a.eval s = .slice (some ⟨b, 0, none⟩) 0 0) (A : Option Addr) (n c : Nat) (hx : a.eval x = .slice A n c) (g : Nat → Nat → Value) (hr : Rd w w.heap.size 1 A n g) (hn : n ≤ 1000000) (hb : bytes ≤ 1000000) {B0 : Nat} (hB0 : B0 ≤ w.heap.size) {B m : Nat} {y : Value} (hm : n ≤ m) :
    Pr.grows (NwP B m e y) P o a w (NwRow B0 e n (flat 1 g n)) := by
  have hrun : ∃ u w', (Builtin.append_ #[t, t] o.type #[.slice (some ⟨b, 0, none⟩) 0 0, .slice A n c]).run P w = .ok u w' ∧ Le w w' ∧ NwRow B0 e n (flat 1 g n) u w' := by
    by_cases hn0 : n = 0
    · subst hn0
      refine ⟨.slice (some ⟨b, 0, none⟩) 0 0, w, ?_, Le.refl w, .inl ⟨rfl, by simp [flat], _, rfl⟩⟩
      cases A <;> simp [go_sem, Builtin.append_, run_underlying ht, sizeOf, typeInfo, hi, Builtin.lenOf, Builtin.firstCells, storeCells]
    · obtain ⟨b2, o2, hA, _, hc⟩ := hr (by omega)
      subst hA
      have hm : n * bytes ≤ 1000000 * 1000000 := Nat.mul_le_mul hn hb
      obtain ⟨v', w', hrun, hown, hgr⟩ := run_append_arg_grows (P := P) w t o.type e i z 1 bytes ht hi hz hsz hby hzs (by decide) ⟨b, 0, none⟩ 0 0 [] (by simp) (fun j u hu => by simp at hu) ⟨b2, o2, none⟩ n c (flat 1 g n) (flat_len _ _ _) (Rd.flat_at hc (by decide)) (by omega) (by unfold maxLen; omega) (by rw [Nat.zero_add]; omega)
      rw [Nat.zero_add, List.nil_append] at hown
      exact ⟨v', w', hrun, (Below.refl _ _).grown hgr (Nat.le_refl _) (fun g hg => by cases hg), .inr ⟨by omega, own_base hown hB0⟩⟩
  obtain ⟨u, w', hrun, hl, hsl⟩ := hrun
  exact app_grows s x t ho _ _ u hs hx w' hrun (NwLe.of hl) (hsl.box hm)
/-- What the second append gives. -/
def NwFin (B : Nat) (T : TypeId) (n : Nat) (xs : List Value) (x : Value) (u : Value) (w : World) : Prop := ∃ q c, u = .slice (some ⟨q, 0, none⟩) (n + 1) c ∧ (n + 1 ≤ c ∧ c ≤ maxLen) ∧ B ≤ q ∧ ∃ cs fr, w.heap[q]? = some (.cells cs T fr) ∧ (∀ j, j < n → cs[j]? = xs[j]?) ∧ cs[n]? = some x
theorem NwFin.box {B base n m : Nat} {T : TypeId} {x u : Value} {xs : List Value} {w : World} (hm : n = m ∨ (n = 0 ∧ m = 1)) (h : NwFin base T n xs x u w) : Pr.Box (NwP B m T x) (NwFin base T n xs x) u w := fun w' hl => by
  obtain ⟨q, c, hu, hc, hb, cs, fr, hr, h1, h2⟩ := h
  obtain ⟨c1, e1, _, f1, g1⟩ := NwLe.row hl q cs fr hr
  refine ⟨q, c, hu, hc, hb, c1, fr, e1, fun j hj => (f1 j (by omega)).trans (h1 j hj), ?_⟩
  rcases hm with rfl | ⟨rfl, rfl⟩
  · rcases g1 with g1 | g1
    · exact g1.trans h2
    · exact g1
  · exact (f1 0 (by omega)).trans h2
theorem fin_of_own {base n : Nat} {T : TypeId} {xs : List Value} {x u : Value} {w : World} (h : w.ownsRow base T 1 u (n + 1) (xs ++ [x])) (hl : xs.length = n) : NwFin base T n xs x u w := by
  obtain ⟨_, h2⟩ := h
  rcases h2 with ⟨_, h2⟩ | ⟨g, cap, cur, hv, hbg, hg, hnc, hcm, hcs, ht⟩
  · simp at h2
  · have hj : ∀ j, j < n + 1 → cur[j]? = (xs ++ [x])[j]? := fun j hj => by
      rw [← ht, List.getElem?_take, if_pos (by omega), Array.getElem?_toList]
    refine ⟨g, cap, hv, ⟨hnc, hcm⟩, hbg, cur, _, hg, fun j h => ?_, ?_⟩
    · rw [hj j (by omega), List.getElem?_append_left (by omega)]
    · rw [hj n (by omega), ← hl]; simp
theorem app2_nw {P : Program} {o : Oper} {a : Act} {w : World} (s y : Operand) (t : TypeId) (ho : o.op = .call { callee := .builtin .append, args := #[s, y], argTypes := #[t, t] })
    (e : TypeId) (i : TypeInfo) (z : Value) (bytes : Nat) (ht : P.underlying t = some (.slice e)) (hi : P.info? e = some i) (hz : i.zero = some z) (hsz : i.size = 1) (hby : i.bytes = bytes) (hzs : z.cells.size = 1)
    (v : Value) (hs : a.eval s = v) (n : Nat) (xs : List Value) {base : Nat} (hv : NwRow base e n xs v w) (hlx : xs.length = n) (b c : Nat) (hx : a.eval y = .slice (some ⟨b, 0, none⟩) 1 c) (x : Value) (hc : w.cell? ⟨b, 0, none⟩ = some x) (h1 : x.oneCell' = true) (hn : n ≤ 1000000) (hb : bytes ≤ 1000) {B m : Nat} (hB : B ≤ base) (hB0 : base ≤ w.heap.size) (hm : n = m ∨ (n = 0 ∧ m = 1)) :
    Pr.grows (NwP B m e x) P o a w (NwFin base e n xs x) := by
  have hmb : (n + 1) * bytes ≤ 1000001 * 1000 := Nat.mul_le_mul (by omega) hb
  have hnews : ∀ j u, ([x] : List Value)[j]? = some u → w.cell? ((⟨b, 0, none⟩ : Addr).add j) = some u := fun j u hu => by
    rcases j with _ | j
    · simp at hu; subst hu; exact hc
    · simp at hu
  rcases hv with ⟨rfl, rfl, q, rfl⟩ | ⟨h0, hown⟩
  · obtain ⟨v', w', hrun, hown, hgr⟩ := run_append_arg_grows (P := P) w t o.type e i z 1 bytes ht hi hz hsz hby hzs (by decide) ⟨q, 0, none⟩ 0 0 [] (by simp) (fun j u hu => by simp at hu) ⟨b, 0, none⟩ 1 c [x] rfl hnews (by omega) (by unfold maxLen; omega) (by simp only [Nat.zero_add] at hmb ⊢; omega)
    exact app_grows s y t ho _ _ v' hs hx w' hrun (NwLe.of ((Below.refl _ _).grown hgr (Nat.le_refl _) (fun g hg => by cases hg))) ((fin_of_own (own_base hown hB0) rfl).box hm)
  · obtain rfl : n = m := by omega
    rcases hown.2 with ⟨_, h9⟩ | ⟨g, cap, cur, rfl, hbg, hg, hnc, hcm, hcs, htake⟩
    · subst h9; simp at hlx; omega
    · by_cases hroom : n + 1 ≤ cap
      · have hfit : n * 1 + [x].length ≤ cur.size := by rw [hcs]; simp; omega
        have hr := run_append_room (P := P) w t o.type e i ht hi g n cap cur hg ⟨b, 0, none⟩ 1 c [x] (by rw [hsz]; rfl) hnews (by simpa using h1) hroom (by rw [hsz]; exact hfit)
        rw [hsz] at hr
        have hcell : ∀ j, j < n → (rowIn cur [x] (n * 1))[j]? = cur[j]? := fun j hj => by
          unfold rowIn
          rw [List.getElem?_toArray, List.append_assoc, List.getElem?_append_left (by rw [List.length_take, Array.length_toList]; omega), List.getElem?_take, if_pos (by omega), Array.getElem?_toList]
        have hcn : (rowIn cur [x] (n * 1))[n]? = some x := by
          unfold rowIn
          have hl : (cur.toList.take (n * 1)).length = n := by rw [List.length_take, Array.length_toList]; omega
          rw [List.getElem?_toArray, List.append_assoc, List.getElem?_append_right (by omega), hl, Nat.sub_self]
          rfl
        have hle : NwLe B n e x w (w.setRow g (rowIn cur [x] (n * 1))) := by
          refine ⟨rfl, rfl, rfl, by rw [setRow_size]; exact Nat.le_refl _, fun k hk hd => setRow_other ?_, fun k cs fr hr9 => ?_⟩
          · rintro rfl
            rcases hd with hd | hd
            · omega
            · exact hd _ _ hg
          · by_cases hk : k = g
            · subst hk
              rw [hg] at hr9
              injection hr9 with hr9
              injection hr9 with e1 e2 e3
              subst e1 e3
              exact ⟨_, setRow_same hg, rowIn_size hfit, hcell, .inr hcn⟩
            · exact ⟨cs, (setRow_other hk).trans hr9, rfl, fun _ _ => rfl, .inl rfl⟩
        refine app_grows s y t ho _ _ _ hs hx _ hr hle (NwFin.box (.inl rfl) ⟨g, cap, rfl, ⟨hroom, hcm⟩, hbg, _, _, setRow_same hg, fun j hj => ?_, hcn⟩)
        refine (hcell j hj).trans ?_
        rw [← htake, List.getElem?_take, if_pos (by omega), Array.getElem?_toList]
      · have holds : ∀ j u, xs[j]? = some u → w.cell? ((⟨g, 0, none⟩ : Addr).add j) = some u := hown.cells (g := g) rfl
        obtain ⟨v', w', hrun, hown2, hgr⟩ := run_append_arg_grows (P := P) w t o.type e i z 1 bytes ht hi hz hsz hby hzs (by decide) ⟨g, 0, none⟩ n cap xs (by omega) holds ⟨b, 0, none⟩ 1 c [x] rfl hnews (by omega) (by unfold maxLen; omega) (by omega)
        exact app_grows s y t ho _ _ v' hs hx w' hrun (NwLe.of ((Below.refl _ _).grown hgr (Nat.le_refl _) (fun g hg => by cases hg))) ((fin_of_own (own_base hown2 hB0) hlx).box (.inl rfl))
theorem NwFin.rd {B n : Nat} {T : TypeId} {xs : List Value} {x u : Value} {w : World} (h : NwFin B T n xs x u w) : ∃ q c, u = .slice (some ⟨q, 0, none⟩) (n + 1) c ∧ (n + 1 ≤ c ∧ c ≤ maxLen) ∧ B ≤ q ∧ (∃ cs fr, w.heap[q]? = some (.cells cs T fr)) ∧ ∀ g : Nat → Nat → Value, (∀ j, j < n → xs[j]? = some (g j 0)) → g n 0 = x → Rd w w.heap.size 1 (some ⟨q, 0, none⟩) (n + 1) g := by
  obtain ⟨q, c, hu, hc, hb, cs, fr, hr, h1, h2⟩ := h
  refine ⟨q, c, hu, hc, hb, ⟨cs, fr, hr⟩, fun g hg hx _ => ⟨q, 0, rfl, row_ltN hr, fun k hk j hj => ?_⟩⟩
  obtain rfl : j = 0 := by omega
  rw [Nat.mul_one, Nat.add_zero, Nat.zero_add, cell_of_row _ _ _ _ _ _ hr]
  by_cases hkn : k < n
  · rw [h1 k hkn, hg k hkn]
  · obtain rfl : k = n := by omega
    rw [h2, hx]
/-- Append of a list onto the empty literal: a list under way. -/
theorem wpList_app_lit9 {P : Program} {ops : Array Oper} {rest : List Oper} {o : Oper} {a : Act} {w : World} {Q : Exit → Act → World → Prop} (hg : o.guard = none) (s x : Operand) (t : TypeId) (ho : o.op = .call { callee := .builtin .append, args := #[s, x], argTypes := #[t, t] })
    (e : TypeId) (i : TypeInfo) (z : Value) (sz bytes : Nat) (ht : P.underlying t = some (.slice e)) (hi : P.info? e = some i) (hz : i.zero = some z) (hsz : i.size = sz) (hby : i.bytes = bytes) (hzs : z.cells.size = sz) (h0 : 0 < sz)
    (b : Nat) (hs : a.eval s = .slice (some ⟨b, 0, none⟩) 0 0) (A : Option Addr) (n c : Nat) (hx : a.eval x = .slice A n c) (g : Nat → Nat → Value) (hr : Rd w w.heap.size sz A n g) (hn : n ≤ 1000000) (hb : bytes ≤ 1000000) (B0 : Nat) (hB0 : B0 ≤ w.heap.size)
    (hK : ∀ v' w', SoC e sz B0 n (flat sz g n) v' w' → Below w.heap.size w w' → wpList P ops Q rest (a.put o.dst v') w') : wpList P ops Q (o :: rest) a w := by
  refine wpList_plain hg fun K hK' => ?_
  have hrun : ∃ u w', (Builtin.append_ #[t, t] o.type #[.slice (some ⟨b, 0, none⟩) 0 0, .slice A n c]).run P w = .ok u w' ∧ Below w.heap.size w w' ∧ SoC e sz B0 n (flat sz g n) u w' := by
    by_cases hn0 : n = 0
    · subst hn0
      refine ⟨.slice (some ⟨b, 0, none⟩) 0 0, w, ?_, Below.refl _ w, .inl ⟨rfl, by simp [flat], _, rfl⟩⟩
      cases A <;> simp [go_sem, Builtin.append_, run_underlying ht, sizeOf, typeInfo, hi, Builtin.lenOf, Builtin.firstCells, storeCells]
    · obtain ⟨b2, o2, hA, _, hc⟩ := hr (by omega)
      subst hA
      have hm : n * bytes ≤ 1000000 * 1000000 := Nat.mul_le_mul hn hb
      obtain ⟨v', w', hrun, hown, hgr⟩ := run_append_arg_grows (P := P) w t o.type e i z sz bytes ht hi hz hsz hby hzs h0 ⟨b, 0, none⟩ 0 0 [] (by simp) (fun j u hu => by simp at hu) ⟨b2, o2, none⟩ n c (flat sz g n) (flat_len _ _ _) (Rd.flat_at hc h0) (by omega) (by unfold maxLen; omega) (by rw [Nat.zero_add]; omega)
      rw [Nat.zero_add, List.nil_append] at hown
      exact ⟨v', w', hrun, (Below.refl _ _).grown hgr (Nat.le_refl _) (fun g hg => by cases hg), .inr (own_base hown hB0)⟩
  obtain ⟨u, w', hrun, hl, hsl⟩ := hrun
  unfold Oper.wp
  simp [execOp, ho, resolve, invoke, builtin, hs, hx, hrun, Result.andThen]
  exact hK' _ _ (hK u w' hsl hl)
theorem NwFin.below {B n : Nat} {T : TypeId} {xs : List Value} {x u : Value} {w w' : World} (h : NwFin B T n xs x u w) (hb : Below w.heap.size w w') : NwFin B T n xs x u w' := by
  obtain ⟨q, c, hu, hc, hq, cs, fr, hr, h1⟩ := h
  exact ⟨q, c, hu, hc, hq, cs, fr, (hb.block q (row_ltN hr)).trans hr, h1⟩
theorem NwFin.set {B n p : Nat} {T t : TypeId} {xs : List Value} {x u : Value} {w : World} {cs0 : Array Value} {fr0 : Nat × Nat} (h : NwFin B T n xs x u w) (hp : w.heap[p]? = some (.cells cs0 t fr0)) (ht : t ≠ T) (cs' : Array Value) : NwFin B T n xs x u (w.setRow p cs') := by
  obtain ⟨q, c, hu, hc, hq, cs, fr, hr, h1⟩ := h
  refine ⟨q, c, hu, hc, hq, cs, fr, (setRow_other ?_).trans hr, h1⟩
  rintro rfl
  rw [hp] at hr
  injection hr with hr
  injection hr with _ e
  exact ht e
theorem NwFin.rd9 {B n q c : Nat} {T : TypeId} {xs : List Value} {x : Value} {w : World} (h : NwFin B T n xs x (.slice (some ⟨q, 0, none⟩) (n + 1) c) w) {g : Nat → Nat → Value} (hg : ∀ j, j < n → xs[j]? = some (g j 0)) (hx : g n 0 = x) : Rd w w.heap.size 1 (some ⟨q, 0, none⟩) (n + 1) g := by
  obtain ⟨q', c', hu, _, _, _, hr⟩ := h.rd
  injection hu with e
  injection e with e
  injection e with e _
  subst e
  exact hr g hg hx
theorem flat_get1 {n j : Nat} (g : Nat → Nat → Value) (hj : j < n) : (flat 1 g n)[j]? = some (g j 0) := by
  have h := flat_get (sz := 1) (n := n) (k := j) (j := 0) g hj (by omega)
  rw [Nat.mul_one, Nat.add_zero] at h
  exact h
theorem Pr.wp_region_seq9 (L : Pr.Pre) (n : Nat) {P : Program} {id : Nat} {Q : Exit → Act → World → Prop} {a : Act} {w : World} {l : List Oper} (F : Nat → Option (Value → World → Prop)) (hdr : L.le w w.drew) (hm : P.follows .mixedOrders = true) (hB : Region.lexB .any (l.take n).toArray = true) (hu : uniqB (l.take n).toArray = true) (ht : seqB2 .any l n = true) (hd : noDefer l = true)
    (h : Pr.wpG L P .any (l.take n).toArray w F (fun a' w' => wpTailIn Fence.wide 0 P Q (l.drop n) a' w') (l.take n) 0 (fun _ => True) a) : (Code.region id l.toArray true).wp P Q a w :=
  wpIn_wide.1 (Pr.wpIn_region_seq L n Wd.wide F hdr hm hB hu ht hd h)
end Go.Proofs.Ytljjpidigckheaa.Un
