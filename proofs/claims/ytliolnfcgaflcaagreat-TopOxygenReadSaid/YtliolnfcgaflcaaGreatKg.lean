/- Contract of Flatness of package finish. -/
import Derived.Test.YtliolnfcgaflcaaGreatKfp
import Derived.Test.YtliolnfcgaflcaaGreatRo
namespace Go.Proofs.YtliolnfcgaflcaaGreat.Un
open Go.RowKit
theorem Rd.cong9 {w : World} {B sz n : Nat} {A : Option Addr} {g g' : Nat → Nat → Value} (h : Rd w B sz A n g) (e : ∀ k, k < n → ∀ j, j < sz → g k j = g' k j) : Rd w B sz A n g' := fun hn => by
 obtain ⟨b, o, hA, hb, hc⟩ := h hn
 exact ⟨b, o, hA, hb, fun k hk j hj => by rw [← e k hk j hj]; exact hc k hk j hj⟩
theorem gP_rP {W n : Nat} : ∀ k, k < n → ∀ j, j < 3 → gP W k j = rP (gridL W n) k j := fun k hk j hj => by
 have e := gridL_get (W := W) hk
 unfold pt9 at e
 unfold gP rP
 rw [e]
 rfl
theorem gPt_in {W H i : Nat} (hW : 1 ≤ W ∧ W ≤ 6) (hH : H ≤ 6) (h : i < W * H) : InG (gPt W i) := by
 have h1 := Nat.mod_lt i (show 0 < W by omega)
 have h2 : i / W < H := by
  rw [Nat.div_lt_iff_lt_mul (by omega), Nat.mul_comm]
  exact h
 have h3 : W * H ≤ 6 * 6 := Nat.mul_le_mul hW.2 hH
 obtain ⟨a, ha⟩ : ∃ a, i % W = a := ⟨_, rfl⟩
 obtain ⟨b, hb⟩ : ∃ b, i / W = b := ⟨_, rfl⟩
 rw [ha] at h1
 rw [hb] at h2
 unfold InG gPt
 simp only [ha, hb]
 omega
theorem grid_in {W H : Nat} (hW : 1 ≤ W ∧ W ≤ 6) (hH : H ≤ 6) : ∀ q ∈ gridL W (W * H), InG q := fun q hq => by
 obtain ⟨i, hi, rfl⟩ := mem_gPt hq
 exact gPt_in hW hH hi
theorem grid_at {W n : Nat} : ∀ q ∈ gridL W n, q.at_ < n := fun q hq => by
 obtain ⟨i, hi, rfl⟩ := mem_gPt hq
 exact hi
def SlM (sz n : Nat) (g : Nat → Nat → Value) (u : Value) (w : World) : Prop := ∃ A c, u = .slice A n c ∧ n ≤ c ∧ c ≤ maxLen ∧ Rd w w.heap.size sz A n g
theorem SlM.box {sz n : Nat} {g : Nat → Nat → Value} {u : Value} {w : World} (h : SlM sz n g u w) : Box (SlM sz n g) u w := fun w' hl => by
 obtain ⟨A, c, hu, hn, hm, hr⟩ := h
 exact ⟨A, c, hu, hn, hm, (hr.below hl).more hl.size⟩
theorem gridM_any (W H : Nat) (w : World) (hW : 1 ≤ W ∧ W ≤ 6) (hH : H ≤ 6) :
 Calls Tryz.prog 35 #[I (W : Int), I (H : Int)] w fun e w' => ∃ u, e = .returned u ∧ Le w w' ∧ Box (SlM 3 (W * H) (rP (gridL W (W * H)))) u w' :=
 (grid_any W H w hW hH).mono fun e w' h => by
  obtain ⟨v, rfl, ho, hb⟩ := h
  obtain ⟨A, c, rfl, h1, h2, hr⟩ := Rd.of_own_max ho
  exact ⟨_, rfl, hb, SlM.box ⟨A, c, rfl, h1, h2, Rd.cong9 hr gP_rP⟩⟩
theorem sh_nat {x : Sht} (h : okSh x = true) : ∃ W H : Nat, x.w = (W : Int) ∧ x.h = (H : Int) ∧ (2 ≤ W ∧ W ≤ 6) ∧ (2 ≤ H ∧ H ≤ 6) ∧ x.s.length = W * H := by
 obtain ⟨h1, h2, h3, _, _⟩ := okSh_iff.1 h
 refine ⟨x.w.toNat, x.h.toNat, by omega, by omega, by omega, by omega, ?_⟩
 have e1 : x.w = ((x.w.toNat : Nat) : Int) := by omega
 have e2 : x.h = ((x.h.toNat : Nat) : Int) := by omega
 rw [e1, e2, ← Int.natCast_mul] at h3
 exact_mod_cast h3
theorem sh_z {x : Sht} (h : okSh x = true) : InZ x.s := fun j hj => by
 obtain ⟨_, _, _, h4, _⟩ := okSh_iff.1 h
 have := all9_at h4 hj
 omega
theorem fl9_in {l : List Pt} {zs : List Rng} {g : Bool} (hl : ∀ q ∈ l, InG q) (hn : ∀ q ∈ l, q.at_ < zs.length) (hz : InZ zs) : InF (fl9 l (at0 zs) g) zs.length := by
 rw [← flP_all]
 exact flP_in hl hn hz _
theorem fl9_some {l : List Pt} {z : Nat → Rng} {g : Bool} (h : (fl9 l z g).s = true) : 0 < (fl9 l z g).b.sz ∧ 0 < (fl9 l z g).v := by
 obtain ⟨h1, h2, h3, _⟩ := (fl9_ok l z g).2 h
 exact ⟨both_sz (fun _ h => bals_sz h) _ h1, h3⟩
theorem fl9_fok {l : List Pt} {zs : List Rng} {g : Bool} (hl : ∀ q ∈ l, InG q) (hn : ∀ q ∈ l, q.at_ < zs.length) (hz : InZ zs) (h : (fl9 l (at0 zs) g).s = true) : 0 < (fl9 l (at0 zs) g).b.sz ∧ fok ⟨(fl9 l (at0 zs) g).v, (fl9 l (at0 zs) g).b.sz⟩ = true := by
 obtain ⟨h1, h2⟩ := fl9_some h
 have hf := fl9_in hl hn hz (g := g)
 have hv := hf.v
 have hs := hf.b.sz
 refine ⟨h1, ?_⟩
 exact fok_iff.2 (by simp only; omega)
def FlV (k : Nat) (f : Frc) (l : List Int × List Int) (v : Value) (w : World) : Prop := ∃ S n T m, v = .agg #[I f.n, I f.d, .slice S l.1.length n, .slice T l.2.length m] ∧ (l.1.length ≤ n ∧ n ≤ maxLen) ∧ (l.2.length ≤ m ∧ m ≤ maxLen) ∧ (Rd w w.heap.size 1 S l.1.length (rI l.1) ∧ Rd w w.heap.size 1 T l.2.length (rI l.2)) ∧ (∀ a, S = some a → k ≤ a.block) ∧ ∀ a, T = some a → k ≤ a.block
theorem FlV.below {k : Nat} {f : Frc} {l : List Int × List Int} {v : Value} {w V : World} (h : FlV k f l v w) (hb : Below w.heap.size w V) : FlV k f l v V := by
 obtain ⟨S, n, T, m, hv, h1, h2, ⟨r1, r2⟩, h3⟩ := h
 exact ⟨S, n, T, m, hv, h1, h2, ⟨(r1.below hb).more hb.size, (r2.below hb).more hb.size⟩, h3⟩
theorem rd_set9 {w : World} {sz n q k : Nat} {A : Option Addr} {g : Nat → Nat → Value} (h : Rd w w.heap.size sz A n g) (ha : ∀ a, A = some a → k ≤ a.block) (hq : q < k) (cs : Array Value) : Rd (w.setRow q cs) (w.setRow q cs).heap.size sz A n g := fun h0 => by
 obtain ⟨b, o, hA, hlt, hc⟩ := h h0
 have hb := ha _ hA
 refine ⟨b, o, hA, by rw [setRow_size]; exact hlt, fun k hk j hj => ?_⟩
 rw [← hc k hk j hj]
 unfold World.cell?
 rw [Go.Proofs.YtliolnfcgaflcaaGreat.setRow_other (show b ≠ q by intro e; simp only at hb; omega)]
theorem FlV.set {k q : Nat} {f : Frc} {l : List Int × List Int} {v : Value} {w : World} (h : FlV k f l v w) (hq : q < k) (cs : Array Value) : FlV k f l v (w.setRow q cs) := by
 obtain ⟨S, n, T, m, hv, h1, h2, ⟨r1, r2⟩, h3, h4⟩ := h
 exact ⟨S, n, T, m, hv, h1, h2, ⟨rd_set9 r1 h3 hq cs, rd_set9 r2 h4 hq cs⟩, h3, h4⟩
theorem FlV.less {k k' : Nat} {f : Frc} {l : List Int × List Int} {v : Value} {w : World} (h : FlV k f l v w) (hk : k' ≤ k) : FlV k' f l v w := by
 obtain ⟨S, n, T, m, hv, h1, h2, r, h3, h4⟩ := h
 exact ⟨S, n, T, m, hv, h1, h2, r, fun a h => Nat.le_trans hk (h3 a h), fun a h => Nat.le_trans hk (h4 a h)⟩
theorem FlV.of {w w' : World} {f : Frc} {l : List Int × List Int} {e : Ending} (h : RetFl w f l e w') : ∃ v, e = .returned v ∧ FlV w.heap.size f l v w' := by
 obtain ⟨⟨S, n, T, m, he, h1, h2, h3, h4, r1, r2, h5, h6⟩, _⟩ := h
 exact ⟨_, he, S, n, T, m, rfl, ⟨h1, h2⟩, ⟨h3, h4⟩, ⟨r1, r2⟩, h5, h6⟩
theorem FlV.zero (k : Nat) (w : World) : FlV k ⟨0, 0⟩ ([], []) (.agg #[I 0, I 0, .slice none 0 0, .slice none 0 0]) w := ⟨none, 0, none, 0, rfl, ⟨Nat.le_refl _, Nat.zero_le _⟩, ⟨Nat.le_refl _, Nat.zero_le _⟩, ⟨Rd.nil, Rd.nil⟩, fun _ h => (by cases h), fun _ h => (by cases h)⟩
def RetFF (w : World) (q : (Frc × (List Int × List Int)) × (Frc × (List Int × List Int)) × Int) (e : Ending) (w' : World) : Prop := ∃ v1 v2, e = .returned (.tuple #[v1, v2, I q.2.2]) ∧ FlV w.heap.size q.1.1 q.1.2 v1 w' ∧ FlV w.heap.size q.2.1.1 q.2.1.2 v2 w' ∧ Below w.heap.size w w'
def shG (x : Sht) : List Pt := gridL x.w.toNat x.s.length
def ff9 (x : Sht) (g : Bool) : Frc × (List Int × List Int) := (ds9 (fl9 (shG x) (at0 x.s) g), flS (fl9 (shG x) (at0 x.s) g))
def flF (x : Sht) : (Frc × (List Int × List Int)) × (Frc × (List Int × List Int)) × Int := if okSh x then (ff9 x false, ff9 x true, 0) else ((⟨0, 0⟩, ([], [])), (⟨0, 0⟩, ([], [])), 2)
theorem alloc_prf (w : World) : ∃ w', (Instr.alloc 102 true (.tuple #[])).run Tryz.prog w = .ok (.pointer (some ⟨w.heap.size, 0, none⟩)) w' := ⟨w.alloc (.cells (pfA pf0) 102), by kernel_rfl⟩
theorem setCell_id {w : World} {k i : Nat} {cs : Array Value} {t : TypeId} {v : Value} (h : w.heap[k]? = some (.cells cs t (0, 0))) (hv : cs[i]? = some v) : w.setCell ⟨k, i, none⟩ v = w := by
 have e : cs.setIfInBounds i v = cs := by
  apply Array.ext_getElem?
  intro j
  rw [Array.getElem?_setIfInBounds]
  split
  · rename_i h'; subst h'
    split
    · exact hv.symm
    · rename_i h2; rw [Array.getElem?_eq_none (by omega)]
  · rfl
 have : (w.heap.modify k fun | .cells c elem frozen => .cells (if (none : Option Nat).isSome then c else c.setIfInBounds i v) elem frozen | o => o) = w.heap := by
  apply Array.ext_getElem?
  intro j
  rw [Array.getElem?_modify]
  split
  · rename_i h'; subst h'
    rw [h]
    simp [e]
  · rfl
 exact congrArg (fun h => { w with heap := h }) this
theorem four_id {X : World} {b1 b2 : Nat} {t1 t2 : TypeId} {x0 x1 x2 x3 y0 y1 y2 y3 : Value} (h1 : X.heap[b1]? = some (.cells #[x0, x1, x2, x3] t1 (0, 0))) (h2 : X.heap[b2]? = some (.cells #[y0, y1, y2, y3] t2 (0, 0))) : (X.setRow b1 #[x0, x1, x2, x3]).setRow b2 #[y0, y1, y2, y3] = X := by
 rw [setRow_id h1, setRow_id h2]
theorem results_rows_t {P : Program} {fn : Func} {p q t1 : Tmp} {ty ty' : TypeId} (h : fn.results = #[.cell p ty, .cell q ty', .tmp t1]) (tmps : Array Value) (w : World) (g g' : Nat) (t t' : TypeId) (cs cs' : Array Value) (fr fr' : Nat × Nat) (d d' : TypeDesc)
 (hp : tmps.getD p undef = .pointer (some ⟨g, 0, none⟩)) (hg : w.heap[g]? = some (.cells cs t fr)) (hq : tmps.getD q undef = .pointer (some ⟨g', 0, none⟩)) (hg' : w.heap[g']? = some (.cells cs' t' fr'))
 (hu : P.underlying ty = some d) (hd : (match d with | .struct _ | .array _ _ => true | _ => false) = true) (hi : (P.info? ty).map (·.size) = some cs.size)
 (hu' : P.underlying ty' = some d') (hd' : (match d' with | .struct _ | .array _ _ => true | _ => false) = true) (hi' : (P.info? ty').map (·.size) = some cs'.size) :
 (results fn tmps).run P w = .ok (.tuple #[.agg cs, .agg cs', tmps.getD t1 undef]) w := by
 have hp' : tmps[p]?.getD undef = .pointer (some ⟨g, 0, none⟩) := by simpa using hp
 have hq' : tmps[q]?.getD undef = .pointer (some ⟨g', 0, none⟩) := by simpa using hq
 simp [results, h, hp', hq', asAddr, run_loadVar_row w g t ty cs fr d hg hu hd hi, run_loadVar_row w g' t' ty' cs' fr' d' hg' hu' hd' hi']
end Go.Proofs.YtliolnfcgaflcaaGreat.Un
