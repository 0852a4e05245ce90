/- Lists of lists of one's own: what append leaves of the inner lists; copies of knots as rows that can grow. -/
import Derived.Test.YtmadlmmfbpmebaaJt
import Derived.Test.YtmadlmmfbpmebaaJy
import Derived.Maps.AppendAt
namespace Go.Proofs.Ytmadlmmfbpmebaa
open Go.RowKit
theorem run_app_soT {P : Program} (w : World) (t ty : TypeId)
    (e : TypeId) (i : TypeInfo) (z : Value) (bytes : Nat) (h1 : P.underlying t = some (.slice e)) (h2 : P.info? e = some i) (h3 : i.zero = some z) (h4 : i.size = 1) (h5 : i.bytes = bytes) (h6 : z.cells.size = 1)
    {B n : Nat} {olds : List Value} {v : Value} (hso : SoC e 1 B n olds v w) (hn0 : n = 0 → ∃ b, v = .slice (some ⟨b, 0, none⟩) 0 0) (ad : Addr) (c : Nat) (x : Value)
    (hc : w.cell? ad = some x) (h1c : x.oneCell' = true) (hB : B ≤ w.heap.size) (hl : n ≤ 1000000) (hb : bytes ≤ 1000) :
    ∃ v' w', (Builtin.append_ #[t, t] ty #[v, .slice (some ad) 1 c]).run P w = .ok v' w' ∧ SoC e 1 B (n + 1) (olds ++ [x]) v' w' ∧ Below B w w' ∧
      (∀ b, b < w.heap.size → (n = 0 ∨ v.ownBlock ≠ some b) → w'.heap[b]? = w.heap[b]? ∧ v'.ownBlock ≠ some b) := by
  have hm : (n + 1) * bytes ≤ 1000001 * 1000 := Nat.mul_le_mul (by omega) hb
  have hc' : ∀ j u, [x][j]? = some u → w.cell? (ad.add j) = some u := fun j u hu => by
    match j with
    | 0 => simp at hu; subst hu; simpa [Addr.add] using hc
    | j + 1 => simp at hu
  by_cases hz : n = 0
  · obtain ⟨b, rfl⟩ := hn0 hz
    have ho : olds = [] := by
      rcases hso with ⟨_, h, _⟩ | h
      · exact h
      · exact List.eq_nil_of_length_eq_zero (by rw [h.1, hz])
    subst ho
    subst hz
    obtain ⟨v', w', hrun, hown, hgr⟩ := run_append_arg_grows (P := P) w t ty e i z 1 bytes h1 h2 h3 h4 h5 h6 (by omega) ⟨b, 0, none⟩ 0 0 [] (by simp) (fun j u hu => by simp at hu) ad 1 c [x] rfl hc' (by omega) (by unfold maxLen; omega) (by simp only [Nat.zero_add] at hm ⊢; omega)
    refine ⟨v', w', hrun, .inr ?_, (Below.refl _ _).grown hgr hB (fun k hk => by cases hk), fun b' hb' _ => ⟨hgr.block b' hb' (by simp), fun h => ?_⟩⟩
    · have := own_base hown hB
      simpa using this
    · have := (hown.lt b' h).1
      omega
  · have ho := hso.resolve_left (fun h => hz h.1)
    obtain ⟨v', w', hrun, hown, hgr, _, hat⟩ := run_append_own_at (P := P) w B t ty e i z 1 bytes h1 h2 h3 h4 h5 h6 (by omega) v n olds ho ad 1 c [x] rfl hc' (by intro u hu; simp at hu; subst hu; exact h1c) (by unfold maxLen; omega) (by omega) hB
    refine ⟨v', w', hrun, .inr hown, (Below.refl _ _).grown hgr hB (fun k hk => (ho.lt k hk).1), fun b' hb' hne => ?_⟩
    by_cases hv : v.ownBlock = some b'
    · exfalso
      rcases hne with h | h
      · exact hz h
      · exact h hv
    · refine ⟨hgr.block b' hb' (fun h => hv h.symm), fun h => ?_⟩
      rcases hat with h' | h'
      · rw [h'] at h; exact hv h
      · rw [h'] at h; injection h with h; omega
theorem wpList_app_soT {P : Program} {ops : Array Oper} {rest : List Oper} {o : Oper} {a : Act} {w : World} {Q : Exit → Act → World → Prop} (hg : o.guard = none) (s x : Operand) (t : TypeId) (ho : o.op = .call { callee := .builtin .append, args := #[s, x], argTypes := #[t, t] })
    (e : TypeId) (i : TypeInfo) (z : Value) (bytes : Nat) (h1 : P.underlying t = some (.slice e)) (h2 : P.info? e = some i) (h3 : i.zero = some z) (h4 : i.size = 1) (h5 : i.bytes = bytes) (h6 : z.cells.size = 1)
    (B n : Nat) (olds : List Value) (v : Value) (hs : a.eval s = v) (hso : SoC e 1 B n olds v w) (hn0 : n = 0 → ∃ b, v = .slice (some ⟨b, 0, none⟩) 0 0) (ad : Addr) (c : Nat) (y : Value) (hx : a.eval x = .slice (some ad) 1 c)
    (hc : w.cell? ad = some y) (h1c : y.oneCell' = true) (hB : B ≤ w.heap.size) (hl : n ≤ 1000000) (hb : bytes ≤ 1000)
    (h : ∀ v' w', SoC e 1 B (n + 1) (olds ++ [y]) v' w' → Below B w w' → (∀ b, b < w.heap.size → (n = 0 ∨ v.ownBlock ≠ some b) → w'.heap[b]? = w.heap[b]? ∧ v'.ownBlock ≠ some b) → wpList P ops Q rest (a.put o.dst v') w') : wpList P ops Q (o :: rest) a w :=
  wpList_plain hg fun _ hK => by
    obtain ⟨v', w', hr, h8, h9, h10⟩ := run_app_soT (P := P) w t o.type e i z bytes h1 h2 h3 h4 h5 h6 hso hn0 ad c y hc h1c hB hl hb
    unfold Oper.wp execOp
    simp only [ho, resolve, invoke, builtin, Sem.run_bind, Sem.run_pure, Result.andThen_ok, List.map_toArray, List.map_cons, List.map_nil, hs, hx, hr]
    exact hK _ _ (h v' w' h8 h9 h10)
theorem knots_info : (Try.prog.info? 44).map (fun i => (i.zero, i.size, i.bytes)) = some (some (.slice none 0 0), 1, 24) := by kernel_rfl
set_option maxRecDepth 100000 in
theorem ownKnotsS_any (A : Option Addr) (n c : Nat) (g : Nat → Nat → Value) (w : World) (B : Nat) (hn : n ≤ 1000) (hB : B ≤ w.heap.size) (hx : Rd w B 2 A n g) : Calls Try.prog 31 #[.slice A n c] w (RetSo w 50 2 n g) := by
  obtain ⟨i0, hi0, iz0, iz1, iz2⟩ := info_parts knot_info
  have HX := Lib.hid hx
  have HB := Lib.hid hB
  have HN := Lib.hid hn
  clear hx hB hn
  go_enter Try.func31, Try.ntmps31
  go_wp2_with (at_builtin; go_loud (refine wpList_app_lit2 rfl _ _ 44 rfl 50 i0 _ 2 16 Try.underlying44 hi0 iz0 iz1 iz2 rfl (by decide) _ rfl A n c rfl g ?hr ?hn (by decide) ?_))
  case hr => exact (HX.out.alloc HB.out _).more (by have := HB.out; simp; omega)
  case hn => have := HN.out; omega
  intro u w' h3 h4
  have H4 : Hid (Below w.heap.size w w') := ((Below.refl _ _).alloc (Nat.le_refl _) _).trans (h4.mono (by omega))
  have H3 : Hid (SoC 50 2 w.heap.size n (flat 2 g n) u w') := h3.base (by simp)
  clear h3 h4
  go_wp2_with fail
  go_ret
  exact ⟨u, rfl, H3.out, H4.out⟩
/-- An inner list that lies outside the outer one's row v. -/
def InK (w : World) (v : Value) (A : Option Addr) (n : Nat) (g : Nat → Nat → Value) : Prop :=
  0 < n → ∃ b o, A = some ⟨b, o, none⟩ ∧ b < w.heap.size ∧ v.ownBlock ≠ some b ∧ ∀ k, k < n → ∀ j, j < 2 → w.cell? ⟨b, o + k * 2 + j, none⟩ = some (g k j)
theorem InK.rd {w : World} {v : Value} {A : Option Addr} {n : Nat} {g : Nat → Nat → Value} (h : InK w v A n g) : Rd w w.heap.size 2 A n g := fun hn => by
  obtain ⟨b, o, h1, h2, _, h3⟩ := h hn
  exact ⟨b, o, h1, h2, h3⟩
theorem InK.next {w w' : World} {v v' : Value} {A : Option Addr} {n : Nat} {g : Nat → Nat → Value} (h : InK w v A n g) (hs : w.heap.size ≤ w'.heap.size) (hk : ∀ b, b < w.heap.size → v.ownBlock ≠ some b → w'.heap[b]? = w.heap[b]? ∧ v'.ownBlock ≠ some b) : InK w' v' A n g := fun hn => by
  obtain ⟨b, o, h1, h2, h3, h4⟩ := h hn
  obtain ⟨h5, h6⟩ := hk b h2 h3
  refine ⟨b, o, h1, by omega, h6, fun k hk j hj => ?_⟩
  rw [World.cell?_of_block (a := ⟨b, o + k * 2 + j, none⟩) h5]
  exact h4 k hk j hj
theorem InK.of_so {w : World} {B n : Nat} {g : Nat → Nat → Value} {A : Option Addr} {m c : Nat} {v : Value} {e : TypeId} (h : SoC e 2 B n (flat 2 g n) (.slice A m c) w) (hv : ∀ b, v.ownBlock = some b → b < B) : InK w v A n g := fun hn => by
  rcases h with h | h
  · omega
  · have hr := Rd.of_own_max h
    obtain ⟨A', c', he, _, _, hr⟩ := hr
    obtain ⟨rfl, rfl, rfl⟩ : A = A' ∧ m = n ∧ c = c' := by injection he with h1 h2 h3; exact ⟨h1, h2, h3⟩
    obtain ⟨b, o, rfl, hb, hc⟩ := hr hn
    have hlt := h.lt b (by
      rcases h.2 with ⟨h1, _⟩ | ⟨q, cap, cur, h1, _⟩
      · cases h1
      · injection h1 with e1; injection e1 with e1; injection e1 with e2; subst e2; rfl)
    exact ⟨b, o, rfl, hb, fun h' => by have := hv b h'; omega, hc⟩
end Go.Proofs.Ytmadlmmfbpmebaa
