/- Plain law of FinishBetween: heights at the ends that a proof names are as flat as it says. The law FinishBetween: its walk. -/
import Derived.Test.YtljjpidigckheaaKfq
import Derived.Test.YtljjpidigckheaaKp
import Derived.Test.YtljjpidigckheaaFlr
import Derived.Test.YtljjpidigckheaaCmn
import Derived.Test.YtljjpidigckheaaPck
import Derived.Test.YtljjpidigckheaaOe
import Derived.Test.YtljjpidigckheaaKw
namespace Go.Proofs.Ytljjpidigckheaa.Un
open Go.RowKit
def wzK (zs : Nat → Rng) (S T : List Int) (z : Nat → Int) : Nat → Nat → Int
 | 0, j => z j
 | k + 1, j => if j = (at0 S k).toNat then (if 0 < at0 T k then (zs j).hi else (zs j).lo) else wzK zs S T z k j
theorem wz_in {zs : Nat → Rng} {S T : List Int} {z : Nat → Int} {n : Nat} (h0 : ∀ k, k < n → (zs k).lo ≤ z k ∧ z k ≤ (zs k).hi) : ∀ m k, k < n → (zs k).lo ≤ wzK zs S T z m k ∧ wzK zs S T z m k ≤ (zs k).hi
 | 0, k, hk => h0 k hk
 | m + 1, k, hk => by
   have h1 := h0 k hk
   have h2 := wz_in (S := S) (T := T) h0 m k hk
   unfold wzK
   split
   · split <;> omega
   · exact h2
theorem pr_last {n : Nat} {W : Int} {z : Nat → Rng} {g : Bool} {S T : List Int} : ∀ {k : Nat}, prK n W z g S T k = true → -1 ≤ (prS W z g S T k).last ∧ ∀ i, i < k → at0 S i ≤ (prS W z g S T k).last ∧ 0 ≤ at0 S i ∧ at0 S i < (n : Int)
 | 0, _ => ⟨Int.le_refl _, fun i hi => absurd hi (Nat.not_lt_zero _)⟩
 | k + 1, h => by
   unfold prK at h
   rw [Bool.and_eq_true] at h
   have h1 := pr_last h.1
   have h2 := prB_iff.1 h.2
   refine ⟨?_, fun i hi => ?_⟩
   · show -1 ≤ at0 S k
     omega
   · show at0 S i ≤ at0 S k ∧ _
     rcases Nat.lt_or_ge i k with hik | hik
     · have := h1.2 i hik
       omega
     · obtain rfl : i = k := by omega
       omega
theorem wz_at {n : Nat} {W : Int} {zs : Nat → Rng} {g : Bool} {S T : List Int} {z : Nat → Int} : ∀ {m : Nat}, prK n W zs g S T m = true → ∀ i, i < m → wzK zs S T z m (at0 S i).toNat = if 0 < at0 T i then (zs (at0 S i).toNat).hi else (zs (at0 S i).toNat).lo
 | 0, _, i, hi => absurd hi (Nat.not_lt_zero _)
 | m + 1, h, i, hi => by
   have h0 := h
   unfold prK at h0
   rw [Bool.and_eq_true] at h0
   have h1 := pr_last h0.1
   have h2 := prB_iff.1 h0.2
   rcases Nat.lt_or_ge i m with him | him
   · have h3 := h1.2 i him
     have h4 := wz_at (z := z) h0.1 i him
     show (if (at0 S i).toNat = (at0 S m).toNat then _ else wzK zs S T z m (at0 S i).toNat) = _
     rw [if_neg (by omega)]
     exact h4
   · obtain rfl : i = m := by omega
     show (if (at0 S i).toNat = (at0 S i).toNat then _ else _) = _
     rw [if_pos rfl]
theorem pr_weak {n WW : Nat} {zs : Nat → Rng} {S T : List Int} {z : Nat → Int} {P : Pln} {N D : Int} {m : Nat} (hk : prK n (WW : Int) zs true S T m = true) (hn : ∀ j, j < n → Nr (wzK zs S T z m) N D P (gPt WW j)) :
 ∀ k, k ≤ m → D * ((prS (WW : Int) zs true S T k).z * P.d - (P.a * (prS (WW : Int) zs true S T k).m1 + P.b * (prS (WW : Int) zs true S T k).m2 + P.c * (prS (WW : Int) zs true S T k).m0)) ≤ N * P.d * (prS (WW : Int) zs true S T k).sz
 | 0, _ => by show D * (0 * P.d - (P.a * 0 + P.b * 0 + P.c * 0)) ≤ N * P.d * 0; simp
 | k + 1, h => by
   have h1 := pr_weak hk hn k (by omega)
   obtain ⟨h2, h3⟩ := (pr_last hk).2 k h |>.2
   have h4 := wz_at (z := z) hk k h
   have h5 := hn (at0 S k).toNat (by omega)
   obtain ⟨E, hE⟩ : ∃ E, prS (WW : Int) zs true S T k = E := ⟨_, rfl⟩
   have e : prS (WW : Int) zs true S T (k + 1) = prT (WW : Int) zs true E (at0 S k) (at0 T k) := by rw [← hE]; rfl
   rw [hE] at h1
   rw [e]
   obtain ⟨a, ha⟩ : ∃ a : Nat, at0 S k = (a : Int) := ⟨(at0 S k).toNat, by omega⟩
   obtain ⟨t, ht⟩ : ∃ t, at0 T k = t := ⟨_, rfl⟩
   rw [ha, ht] at h4
   rw [ha] at h5
   rw [Int.toNat_natCast] at h4 h5
   obtain ⟨y, hy⟩ : ∃ y, wzK zs S T z m a = y := ⟨_, rfl⟩
   have htm : tm9 t (zs a) true = t * y := by
     unfold tm9
     rw [← hy, h4]
     by_cases h0 : 0 < t
     · rw [if_pos h0, if_pos (by simp [h0])]
     · rw [if_neg h0, if_neg (by simp [h0])]
   unfold Nr Pln.off Pln.on gPt at h5
   change -(N * P.d) ≤ D * (wzK zs S T z m a * P.d - (P.a * ((a % WW : Nat) : Int) + P.b * ((a / WW : Nat) : Int) + P.c)) ∧ D * (wzK zs S T z m a * P.d - (P.a * ((a % WW : Nat) : Int) + P.b * ((a / WW : Nat) : Int) + P.c)) ≤ N * P.d at h5
   rw [hy] at h5
   unfold prT
   rw [ha, ht]
   simp only [Int.toNat_natCast]
   rw [htm, ← Int.natCast_emod, ← Int.natCast_ediv]
   generalize ((a % WW : Nat) : Int) = X at h5 ⊢
   generalize ((a / WW : Nat) : Int) = Y at h5 ⊢
   obtain ⟨o, ho⟩ : ∃ o, y * P.d - (P.a * X + P.b * Y + P.c) = o := ⟨_, rfl⟩
   rw [ho] at h5
   have e1 : D * ((E.z + t * y) * P.d - (P.a * (E.m1 + t * X) + P.b * (E.m2 + t * Y) + P.c * (E.m0 + t))) = D * (E.z * P.d - (P.a * E.m1 + P.b * E.m2 + P.c * E.m0)) + t * (D * o) := by rw [← ho]; grind
   rw [e1, Int.mul_add]
   have e2 : t * (D * o) ≤ N * P.d * max t (-t) := by
     rcases Int.lt_or_le t 0 with h0 | h0
     · have := Int.mul_le_mul_of_nonneg_left h5.1 (show 0 ≤ -t by omega)
       rw [show max t (-t) = -t by omega]
       rw [Int.neg_mul, Int.neg_mul, Int.mul_neg, Int.neg_neg] at this
       rw [Int.mul_neg, Int.mul_comm (N * P.d) t]
       omega
     · have := Int.mul_le_mul_of_nonneg_left h5.2 h0
       rw [show max t (-t) = t by omega, Int.mul_comm (N * P.d) t]
       exact this
   omega
theorem pr_sz {W : Int} {zs : Nat → Rng} {g : Bool} {S T : List Int} {n : Nat} : ∀ {k : Nat}, prK n W zs g S T k = true → (k : Int) ≤ (prS W zs g S T k).sz
 | 0, _ => Int.le_refl _
 | k + 1, h => by
   unfold prK at h
   rw [Bool.and_eq_true] at h
   have h1 := pr_sz h.1
   have h2 := (prB_iff.1 h.2).2.2.2.2
   show ((k + 1 : Nat) : Int) ≤ (prS W zs g S T k).sz + max (at0 T k) (-(at0 T k))
   omega
theorem worst_flat {x : Sht} (ho : okSh x = true) {S T : List Int} {z : Nat → Int} (hp : prR x (ff9 x true).1 S T true = true) (hz : ∀ k, k < x.s.length → (at0 x.s k).lo ≤ z k ∧ z k ≤ (at0 x.s k).hi) (g : Bool) :
 ds9 (fl9 (shG x) (ex9 (wzK (at0 x.s) S T z S.length)) g) = (ff9 x true).1 := by
 obtain ⟨WW, HH, eW, eH, bW, bH, eL⟩ := sh_nat ho
 have hG : shG x = gridL WW (WW * HH) := by unfold shG; rw [eW, eL]; rfl
 have hgr : Grd (shG x) := by rw [hG]; exact grid_grd bW.1 bH.1
 have hat : ∀ q ∈ shG x, q.at_ < x.s.length := by rw [hG, eL]; exact grid_at
 have hl1 := fl_lub (shG x) (ex9 (wzK (at0 x.s) S T z S.length)) g
 have hl2 := fl_lub (shG x) (at0 x.s) true
 obtain ⟨f, hf⟩ : ∃ f, ds9 (fl9 (shG x) (ex9 (wzK (at0 x.s) S T z S.length)) g) = f := ⟨_, rfl⟩
 refine ds_eq_of (flat_between hat (wz_in hz S.length) g).2 ?_
 change prR x (ds9 (fl9 (shG x) (at0 x.s) true)) S T true = true at hp
 unfold Lef
 rw [hf] at hl1 ⊢
 obtain ⟨f2, hf2⟩ : ∃ f, ds9 (fl9 (shG x) (at0 x.s) true) = f := ⟨_, rfl⟩
 rw [hf2] at hp hl2 ⊢
 have hd := hl1.1
 have hn := hl1.2.1
 have hd2 := hl2.1
 obtain ⟨P, hP, hN⟩ := (min_max hgr hl1 (N := f.n) (D := f.d) (by omega)).1 (Int.le_refl _)
 unfold prR at hp
 split at hp
 · rename_i hc
   split at hp
   · have h0 : f2.n = 0 := of_decide_eq_true hp
     rw [h0, Int.zero_mul]
     exact Int.mul_nonneg hn (by omega)
   · rename_i hs
     rw [Bool.and_eq_true] at hp
     obtain ⟨hk, he⟩ := hp
     rw [eW] at hk he
     have hw := pr_weak (P := P) (N := f.n) (D := f.d) (z := z) hk (fun j hj => hN _ (by rw [hG]; exact gPt_mem (by rw [← eL]; exact hj))) S.length (Nat.le_refl _)
     have hsz := pr_sz hk
     obtain ⟨E, hE⟩ : ∃ E, prS (WW : Int) (at0 x.s) true S T S.length = E := ⟨_, rfl⟩
     rw [hE] at he hw hsz
     unfold prEnd at he
     simp only [Bool.and_eq_true, decide_eq_true_eq] at he
     obtain ⟨m0, m1, m2, hc0⟩ := he
     rw [m0, m1, m2] at hw
     have hzz : E.z * f2.d = f2.n * E.sz := by
        unfold fcm cmpI at hc0
        change (if E.z * f2.d < f2.n * E.sz then _ else if _ then _ else _) = (0 : Int) at hc0
        split at hc0
        · omega
        · split at hc0 <;> omega
     have hsp : 0 < E.sz := by omega
     have h1 : f.d * E.z ≤ f.n * E.sz := by
        refine Int.le_of_mul_le_mul_right (a := P.d) ?_ hP
        have e1 : f.d * (E.z * P.d - (P.a * 0 + P.b * 0 + P.c * 0)) = f.d * E.z * P.d := by grind
        rw [e1] at hw
        rw [show f.n * E.sz * P.d = f.n * P.d * E.sz by grind]
        exact hw
     refine Int.le_of_mul_le_mul_right (a := E.sz) ?_ hsp
     rw [show f2.n * f.d * E.sz = f2.n * E.sz * f.d by grind, ← hzz, show E.z * f2.d * f.d = f.d * E.z * f2.d by grind, show f.n * f2.d * E.sz = f.n * E.sz * f2.d by grind]
     exact Int.mul_le_mul_of_nonneg_right h1 (by omega)
 · exact absurd hp (by decide)
end Go.Proofs.Ytljjpidigckheaa.Un
namespace Go.Proofs.Ytljjpidigckheaa.Un
open Go.RowKit
def Row1 (g : Nat) (t : TypeId) (n : Nat) (f : Nat → Int) (V : World) : Prop := ∃ cur, V.heap[g]? = some (.cells cur t (0, 0)) ∧ ∀ k, k < n → cur[k]? = some (I (f k))
theorem Row1.below {g n : Nat} {t : TypeId} {f : Nat → Int} {V U : World} (h : Row1 g t n f V) (hb : Below V.heap.size V U) : Row1 g t n f U := by
 obtain ⟨cur, hr, hc⟩ := h
 exact ⟨cur, (hb.block g (lt_of_row hr)).trans hr, hc⟩
theorem Row1.cell {g n : Nat} {t : TypeId} {f : Nat → Int} {V : World} (h : Row1 g t n f V) {k : Nat} (hk : k < n) : V.cell? ⟨g, k, none⟩ = some (I (f k)) := by
 obtain ⟨cur, hr, hc⟩ := h
 exact (cell_of_row _ _ _ _ _ _ hr).trans (hc k hk)
theorem Row1.frozen {g n : Nat} {t : TypeId} {f : Nat → Int} {V : World} (h : Row1 g t n f V) (o : Nat) : V.frozen? ⟨g, o, none⟩ = false := by
 obtain ⟨cur, hr, _⟩ := h
 exact frozen_of_row _ _ _ _ _ hr
theorem Row1.set {g n i : Nat} {t : TypeId} {f f' : Nat → Int} {V : World} (h : Row1 g t n f V) (hf : ∀ k, k < n → k ≠ i → f' k = f k) : Row1 g t n f' (V.setCell ⟨g, i, none⟩ (I (f' i))) := by
 obtain ⟨cur, hr, hc⟩ := h
 refine ⟨_, rs hr i (I (f' i)), fun k hk => ?_⟩
 by_cases hki : k = i
 · subst hki
   rw [Array.getElem?_setIfInBounds_self_of_lt (Array.getElem?_eq_some_iff.1 (hc k hk)).1]
 · rw [Array.getElem?_setIfInBounds_ne (fun e => hki e.symm), hc k hk, hf k hk hki]
theorem Row1.cong {g n : Nat} {t : TypeId} {f f' : Nat → Int} {V : World} (h : Row1 g t n f V) (hf : ∀ k, k < n → f' k = f k) : Row1 g t n f' V := by
 obtain ⟨cur, hr, hc⟩ := h
 exact ⟨cur, hr, fun k hk => by rw [hc k hk, hf k hk]⟩
theorem Row1.rdL {g n : Nat} {t : TypeId} {f : Nat → Int} {V : World} (h : Row1 g t n f V) : Rd V V.heap.size 1 (some ⟨g, 0, none⟩) n (rI ((List.range n).map f)) := fun _ => by
 obtain ⟨cur, hr, hc⟩ := h
 refine ⟨g, 0, rfl, lt_of_row hr, fun k hk j hj => ?_⟩
 obtain rfl : j = 0 := by omega
 refine (cell_of_row _ _ _ _ _ _ hr).trans ?_
 rw [show 0 + k * 1 + 0 = k by omega, hc k hk]
 show _ = some (I (at0 ((List.range n).map f) k))
 unfold at0
 rw [List.getD_eq_getElem?_getD, List.getElem?_map, List.getElem?_range hk]
 rfl
theorem soc_row9 {B n : Nat} {T : TypeId} {l : List Int} {v : Value} {w : World} (h : SoC T 1 B n (flat 1 (rI l) n) v w) (h0 : 0 < n) : ∃ g c, v = .slice (some ⟨g, 0, none⟩) n c ∧ B ≤ g ∧ Row1 g T n (at0 l) w := by
 rcases h with ⟨h1, _⟩ | ⟨_, ⟨_, h2⟩ | ⟨g, cap, cur, hv, hb, hg, _, _, _, ht⟩⟩
 · omega
 · omega
 · refine ⟨g, cap, hv, hb, cur, hg, fun k hk => ?_⟩
   have e : (flat 1 (rI l) n)[k]? = some (I (at0 l k)) := by
    have h := flat_get (sz := 1) (n := n) (k := k) (j := 0) (rI l) hk (by omega)
    rw [Nat.mul_one, Nat.add_zero] at h
    exact h
   rw [← ht, List.getElem?_take, if_pos (by omega), Array.getElem?_toList] at e
   exact e
theorem wpList_app_litS {P : Program} {ops : Array Oper} {rest : List Oper} {o : Oper} {a : Act} {w : World} {Q : Exit → Act → World → Prop} (hg : o.guard = none) (s x : Operand) (t : TypeId) (ho : o.op = .call { callee := .builtin .append, args := #[s, x], argTypes := #[t, t] })
 (e : TypeId) (i : TypeInfo) (z : Value) (sz bytes : Nat) (ht : P.underlying t = some (.slice e)) (hi : P.info? e = some i) (hz : i.zero = some z) (hsz : i.size = sz) (hby : i.bytes = bytes) (hzs : z.cells.size = sz) (h0 : 0 < sz)
 (b : Nat) (hs : a.eval s = .slice (some ⟨b, 0, none⟩) 0 0) (A : Option Addr) (n c : Nat) (hx : a.eval x = .slice A n c) (g : Nat → Nat → Value) (hr : Rd w w.heap.size sz A n g) (hn : n ≤ 1000000) (hn0 : 0 < n) (hb : bytes ≤ 1000000)
 (hK : ∀ u w', SoC e sz w.heap.size n (flat sz g n) u w' → Below w.heap.size w w' → wpList P ops Q rest (a.put o.dst u) w') : wpList P ops Q (o :: rest) a w := by
 refine wpList_plain hg fun K hK' => ?_
 obtain ⟨b2, o2, hA, _, hc⟩ := hr (by omega)
 subst hA
 have hm : n * bytes ≤ 1000000 * 1000000 := Nat.mul_le_mul hn hb
 obtain ⟨v', w', hrun, hown, hgr⟩ := run_append_arg_grows (P := P) w t o.type e i z sz bytes ht hi hz hsz hby hzs h0 ⟨b, 0, none⟩ 0 0 [] (by simp) (fun j u hu => by simp at hu) ⟨b2, o2, none⟩ n c (flat sz g n) (flat_len _ _ _) (Rd.flat_at hc h0) (by omega) (by unfold maxLen; omega) (by rw [Nat.zero_add]; omega)
 rw [Nat.zero_add, List.nil_append] at hown
 unfold Oper.wp
 simp [execOp, ho, resolve, invoke, builtin, hs, hx, hrun, Result.andThen]
 exact hK' _ _ (hK _ w' (.inr hown) ((Below.refl _ _).grown hgr (Nat.le_refl _) (fun g hg => by cases hg)))
def FlAt (q : Frc) (S T : List Int) (u : Value) (w : World) : Prop := ∃ A m C n, u = .agg #[I q.n, I q.d, .slice A S.length m, .slice C T.length n] ∧ Rd w w.heap.size 1 A S.length (rI S) ∧ Rd w w.heap.size 1 C T.length (rI T)
theorem of_grow {P : Program} {f : FuncId} {args : Array Value} {w : World} {q : Frc} {S T : List Int} (h : Calls P f args w (RetOf w q S T)) : Calls P f args w fun e w' => ∃ u, e = .returned u ∧ Le w w' ∧ Box (FlAt q S T) u w' :=
 h.mono fun _ _ ⟨A, m, C, n, he, _, _, h1, h2, hb⟩ => ⟨_, he, hb, fun _ hl => ⟨A, m, C, n, rfl, (h1.below hl).more hl.size, (h2.below hl).more hl.size⟩⟩
theorem FlAt.at {q : Frc} {S T : List Int} {A C : Option Addr} {m n : Nat} {w : World} (h : FlAt q S T (.agg #[I q.n, I q.d, .slice A S.length m, .slice C T.length n]) w) : Rd w w.heap.size 1 A S.length (rI S) ∧ Rd w w.heap.size 1 C T.length (rI T) := by
 obtain ⟨A', m', C', n', hu, h1, h2⟩ := h
 obtain ⟨⟨e1, e2⟩, e3, e4⟩ : (A = A' ∧ m = m') ∧ C = C' ∧ n = n' := by simpa using hu
 subst e1 e3
 exact ⟨h1, h2⟩
def WnAt (l : List Frc) (er : Int) (u : Value) (w : World) : Prop := ∃ A c, u = .tuple #[.slice A l.length c, I er] ∧ Rd w w.heap.size 2 A l.length (rFr l)
theorem wn_grow {P : Program} {f : FuncId} {args : Array Value} {w : World} {l : List Frc} {er : Int} (h : Calls P f args w (RetWn w l er)) : Calls P f args w fun e w' => ∃ u, e = .returned u ∧ Le w w' ∧ Box (WnAt l er) u w' :=
 h.mono fun _ _ ⟨v, he, ho, hb⟩ => by
  obtain ⟨A, c, rfl, _, _, hr⟩ := Rd.of_own_max ho
  exact ⟨_, he, hb, fun _ hl => ⟨A, c, rfl, (hr.below hl).more hl.size⟩⟩
theorem WnAt.at {l : List Frc} {er : Int} {A : Option Addr} {c : Nat} {w : World} (h : WnAt l er (.tuple #[.slice A l.length c, I er]) w) : Rd w w.heap.size 2 A l.length (rFr l) := by
 obtain ⟨A', c', hu, hr⟩ := h
 have e : A = A' := by simp at hu; exact hu.1
 subst e
 exact hr
theorem rd_frc {w : World} {B n k : Nat} {A : Option Addr} {l : List Frc} (h : Rd w B 2 A n (rFr l)) (hk : k < n) : ∃ b o, A = some ⟨b, o, none⟩ ∧ b < B ∧ w.cell? ⟨b, o + k * 2, none⟩ = some (I (fr0 l k).n) ∧ w.cell? ⟨b, o + k * 2 + 1, none⟩ = some (I (fr0 l k).d) := by
 obtain ⟨b, o, e, hb, hc⟩ := h (by omega)
 exact ⟨b, o, e, hb, hc k hk 0 (by omega), hc k hk 1 (by omega)⟩
theorem prR_sites {x : Sht} {f : Frc} {S T : List Int} {g : Bool} (h : prR x f S T g = true) : S.length = T.length ∧ ∀ i, i < S.length → 0 ≤ at0 S i ∧ at0 S i < (x.s.length : Int) := by
 unfold prR at h
 split at h
 · rename_i hc
   refine ⟨hc.2.1, fun i hi => ?_⟩
   rw [if_neg (by omega), Bool.and_eq_true] at h
   exact ((pr_last h.1).2 i hi).2
 · exact absurd h (by decide)
theorem bsx_ok {x : Sht} (h : okSh x = true) {z : List Int} (hl : z.length = x.s.length) (hz : InH z) : okSh (bsX x.w x.h z) = true := by
 obtain ⟨h1, h2, h3, _, h5⟩ := okSh_iff.1 h
 refine okSh_iff.2 ⟨h1, h2, ?_, all9_iff.2 fun r hr => ?_, rfl⟩
 · show ((exR z).length : Int) = x.w * x.h
   rw [exR_len, hl]
   exact h3
 · change r ∈ exR z at hr
   obtain ⟨i, hi, rfl⟩ := List.mem_iff_getElem.1 hr
   have hi' : i < z.length := by rw [exR_len] at hi; exact hi
   have e := exR_at hi'
   unfold at0 at e
   rw [List.getD_eq_getElem?_getD, List.getElem?_eq_getElem hi] at e
   change (exR z)[i] = _ at e
   rw [e]
   have := hz i hi'
   exact spn9_iff.2 ⟨this.1, Int.le_refl _, this.2⟩
theorem fl_fok {l : List Pt} {zs : List Rng} {g : Bool} (hl : ∀ q ∈ l, InG q) (hn : ∀ q ∈ l, q.at_ < zs.length) (hz : InZ zs) : fok (ds9 (fl9 l (at0 zs) g)) = true := by
 have hf := fl9_in (g := g) hl hn hz
 have hd : InD (ds9 (fl9 l (at0 zs) g)) := ds_in hf fun hs => fl9_some hs
 obtain ⟨⟨h1, h2⟩, h3, h4⟩ := hd
 exact fok_iff.2 (by omega)
theorem best_sh {x : Sht} (ho : okSh x = true) {z : List Int} (hl : z.length = x.s.length) (hz : InH z) {P : Pln} {f : Frc} {er : Int} (h : BestOk x.w x.h z P f er) : er = 0 ∧ f = ds9 (fl9 (shG x) (ex9 (at0 z)) true) ∧ fok f = true := by
 have hk := bsx_ok ho hl hz
 rcases h with h | h
 · obtain ⟨_, h1, _, _, h2, _⟩ := h
   rw [hl] at h2
   refine ⟨h1, h2, ?_⟩
   rw [h2]
   obtain ⟨WW, HH, eW, eH, bW, bH, eL⟩ := sh_nat ho
   have hg : gridL x.w.toNat x.s.length = gridL WW (WW * HH) := by rw [eW, eL]; rfl
   rw [hg, ← ex_eq]
   exact fl_fok (grid_in ⟨by omega, bW.2⟩ bH.2) (by rw [exR_len, hl, eL]; exact grid_at) (InZ_ex hz)
 · rw [hk] at h
   exact absurd h.1 (by decide)
theorem fr0_wn {x : Sht} {w h n k : Nat} (hk : k < n) : fr0 (wnL x w h n) k = wnF x w h k := by
 unfold fr0 wnL
 rw [List.getD_eq_getElem?_getD, List.getElem?_map, List.getElem?_range hk]
 rfl
theorem wn22 {x : Sht} (ho : okSh x = true) : wnE x 2 2 = 0 ∧ ((wnX x 2 2).length : Int) = (x.w - 1) * (x.h - 1) ∧ (wnX x 2 2).length ≤ 25 ∧ ∀ k, k < (wnX x 2 2).length → Lef (fr0 (wnX x 2 2) k) (ff9 x true).1 ∧ fok (fr0 (wnX x 2 2) k) = true := by
 obtain ⟨WW, HH, eW, eH, bW, bH, eL⟩ := sh_nat ho
 have hE : wnE x 2 2 = 0 := by
  unfold wnE
  rw [if_pos ho, if_pos ⟨by omega, by omega, by omega, by omega⟩]
 have hX : wnX x 2 2 = wnL x 2 2 ((HH - 1) * (WW - 1)) := by
  unfold wnX
  rw [if_pos hE]
  show wnL x 2 2 ((x.h.toNat - 2 + 1) * (x.w.toNat - 2 + 1)) = _
  rw [show x.h.toNat - 2 + 1 = HH - 1 by omega, show x.w.toNat - 2 + 1 = WW - 1 by omega]
 refine ⟨hE, ?_, ?_, fun k hk => ?_⟩
 · rw [hX, wnL_len, eW, eH, Int.natCast_mul, Int.mul_comm, show ((WW - 1 : Nat) : Int) = (WW : Int) - 1 by omega, show ((HH - 1 : Nat) : Int) = (HH : Int) - 1 by omega]
 · rw [hX, wnL_len]
   exact Nat.mul_le_mul (show HH - 1 ≤ 5 by omega) (show WW - 1 ≤ 5 by omega)
 · rw [hX, wnL_len] at hk
   rw [hX, fr0_wn hk]
   have e1 : x.w.toNat = WW := by omega
   have e2 : shG x = gridL WW (WW * HH) := by unfold shG; rw [eW, eL]; rfl
   have h1 : k % (WW - 2 + 1) + 2 ≤ WW := by have := Nat.mod_lt k (show 0 < WW - 2 + 1 by omega); omega
   have h2 : k / (WW - 2 + 1) + 2 ≤ HH := by
    have : k / (WW - 2 + 1) < HH - 1 := by
       rw [Nat.div_lt_iff_lt_mul (by omega), show WW - 2 + 1 = WW - 1 by omega]
       exact hk
    omega
   unfold wnF
   rw [e1]
   refine ⟨?_, fl_fok (win_in h1 h2 (Nat.le_refl _) bW.2 bH.2) (by rw [eL]; exact win_at h1 h2 (by omega)) (sh_z ho)⟩
   show Lef _ (ds9 (fl9 (shG x) (at0 x.s) true))
   rw [e2]
   exact win_le h1 h2 (by omega)
theorem wnAll {x : Sht} (ho : okSh x = true) : wnE x x.w x.h = 0 ∧ wnX x x.w x.h = [(ff9 x true).1] := by
 obtain ⟨WW, HH, eW, eH, bW, bH, eL⟩ := sh_nat ho
 have hE : wnE x x.w x.h = 0 := by
  unfold wnE
  rw [if_pos ho, if_pos ⟨by omega, by omega, by omega, by omega⟩]
 refine ⟨hE, ?_⟩
 unfold wnX
 rw [if_pos hE, Nat.sub_self, Nat.sub_self]
 show [wnF x x.w.toNat x.h.toNat 0] = _
 have e1 : x.w.toNat = WW := by omega
 have e3 : x.h.toNat = HH := by omega
 have e2 : shG x = gridL WW (WW * HH) := by unfold shG; rw [eW, eL]; rfl
 unfold wnF
 rw [e1, e3, Nat.zero_mod, Nat.zero_div, win_all]
 show _ = [ds9 (fl9 (shG x) (at0 x.s) true)]
 rw [e2]
set_option maxRecDepth 100000 in
set_option maxHeartbeats 8000000 in
theorem finishBetween_any (x : Sht) (A : Option Addr) (n : Nat) (HA : Option Addr) (hc : Nat) (hs : List Int) (w : World) (hm : x.s.length ≤ n ∧ n ≤ maxLen) (hx : Rd w w.heap.size 2 A x.s.length (rR x.s)) (hh : Rd w w.heap.size 1 HA hs.length (rH hs)) (h16 : Is16 hs) :
 Calls Try.prog 13 #[.agg (shA x A n), .slice HA hs.length hc] w fun e w' => e = .returned (.bool true) ∧ Below w.heap.size w w' := by
 have KN := Lib.hid known_any
 have HRD : Hid (∀ V, Below w.heap.size w V → Rd V w.heap.size 2 A x.s.length (rR x.s) ∧ Rd V w.heap.size 1 HA hs.length (rH hs) ∧ w.heap.size ≤ V.heap.size) := fun V hV => ⟨hx.below hV, hh.below hV, hV.size⟩
 have HM1 : Hid (x.s.length ≤ maxLen) := Nat.le_trans hm.1 hm.2
 have H16 := Lib.hid h16
 clear hx hm hh h16
 obtain ⟨W, hW⟩ : ∃ W, W = (w.alloc (.cells #[I x.w, I x.h, I x.c.lo, I x.c.hi, .slice A x.s.length n] 37)) := ⟨_, rfl⟩
 have rowW0 : W.heap[w.heap.size]? = some (.cells #[I x.w, I x.h, I x.c.lo, I x.c.hi, .slice A x.s.length n] 37 (0, 0)) := by rw [hW]; exact heap_last _ _ _ rfl
 have yW00 := ovr_cell (W := W) (b := w.heap.size) (o := 0) (v := I x.w) (by rw [cell_of_row _ _ _ _ _ _ rowW0]; rfl)
 have yW01 := ovr_cell (W := W) (b := w.heap.size) (o := 1) (v := I x.h) (by rw [cell_of_row _ _ _ _ _ _ rowW0]; rfl)
 have yW02 := ovr_cell (W := W) (b := w.heap.size) (o := 2) (v := I x.c.lo) (by rw [cell_of_row _ _ _ _ _ _ rowW0]; rfl)
 have yW03 := ovr_cell (W := W) (b := w.heap.size) (o := 3) (v := I x.c.hi) (by rw [cell_of_row _ _ _ _ _ _ rowW0]; rfl)
 have yW04 := ovr_cell (W := W) (b := w.heap.size) (o := 4) (v := .slice A x.s.length n) (by rw [cell_of_row _ _ _ _ _ _ rowW0]; rfl)
 have RrowW0 := Lib.hid (ovr_row rowW0)
 clear rowW0
 have HUW : Hid (∀ u, Below w.heap.size w (ovr W u)) := U1 hW
 have HW := Lib.hid hW
 clear hW
 go_enter Try.func13, Try.ntmps13
 go_upto_region 1 with (fail)
 rw [← HW.out]
 obtain ⟨u0, hu0⟩ := ovr_self W
 rw [hu0]
 clear hu0
 by_cases c1 : x.s.length ≤ 16
 case neg =>
  have d0 : decide ((16 : Int) < (x.s.length : Int)) = true := decide_eq_true (by omega)
  clear c1
  go_wp2_with fail
  refine (KN.out _).mono ?_
  rintro e w1 ⟨rfl, hb1⟩
  obtain ⟨uk, rfl⟩ := ovr_next hb1
  clear hb1
  go_wp2_with fail
  go_ret
  exact ⟨rfl, HUW.out _⟩
 have d0 : decide ((16 : Int) < (x.s.length : Int)) = false := decide_eq_false (by omega)
 have HC := Lib.hid c1
 clear c1
 go_upto_region 3 with fail
 have S0 : Hid (StL w [(w.heap.size, shA x A n, 37)] (ovr W u0)) := ⟨HUW.out u0, fun y hy => by
  rcases List.mem_cons.1 hy with rfl | hy
  · exact RrowW0.out u0
  cases hy⟩
 refine name_w fun V hV => ?_
 rw [← hV] at S0
 clear hV HUW RrowW0 d0
 have CO := Lib.hid (ownSheet_any x A n V w.heap.size (by have := HC.out; omega) S0.out.1.size (HRD.out _ S0.out.1).1)
 obtain ⟨f1, S1, T1, f2, S2, T2, pe, hq, hnz, hbad, hgood⟩ := flF_parts x
 have HBAD := Lib.hid hbad
 have HGOOD := Lib.hid hgood
 have CF : Hid (∀ V A2 c2, (x.s.length ≤ c2 ∧ c2 ≤ maxLen) → Rd V V.heap.size 2 A2 x.s.length (rR x.s) → Calls Try.prog 32 #[.agg (shA x A2 c2)] V (RetFF V ((f1, (S1, T1)), (f2, (S2, T2)), pe))) := fun V A2 c2 h r => by rw [← hq]; exact flatness0_any x A2 c2 V V.heap.size h (Nat.le_refl _) r
 clear hq hnz hbad hgood
 go_wp2_with (with_reducible show wpList _ _ _ _ _ _; refine wpList_load_row9 rfl 37 _ rfl w.heap.size rfl (shA x A n) _ _ _ S0.out.hd Try.underlying37 rfl (by kernel_rfl) ?_)
 refine CO.out.mono ?_
 rintro e w1 ⟨A2, c2, rfl, h1, hr, hb1⟩
 have SA := Lib.hid (S0.out.below hb1)
 have CF1 := Lib.hid (CF.out w1 A2 c2 h1 hr)
 clear h1 hr hb1 CO CF S0
 go_wp2_with fail
 refine CF1.out.mono ?_
 rintro e w2 ⟨v1, v2, rfl, ⟨A3, m3, C3, n3, rfl, _, _, ⟨q1, q2⟩, _, _⟩, ⟨A4, m4, C4, n4, rfl, _, _, ⟨q3, q4⟩, _, _⟩, hb2⟩
 have SB := Lib.hid (SA.out.below hb2)
 have RB : Hid (FfR S1 T1 S2 T2 A3 C3 A4 C4 w2) := ⟨q1, q2, q3, q4⟩
 clear hb2 CF1 SA q1 q2 q3 q4
 go_upto_region 4 with fail
 obtain ⟨PB, hPB⟩ : ∃ q, q = w2.heap.size := ⟨_, rfl⟩
 obtain ⟨QB, hQB⟩ : ∃ q, q = w2.heap.size + 1 := ⟨_, rfl⟩
 obtain ⟨Z, hZ⟩ : ∃ Z, Z = (w2.alloc (.cells (flB f1 S1 T1 A3 C3 m3 n3) 60)).alloc (.cells (flB f2 S2 T2 A4 C4 m4 n4) 60) := ⟨_, rfl⟩
 have hbZ : Below w2.heap.size w2 Z := by rw [hZ]; exact ((Below.refl _ _).alloc (Nat.le_refl _) _).alloc (by simp) _
 have SZ : Hid (StL w [(QB, flB f2 S2 T2 A4 C4 m4 n4, 60), (PB, flB f1 S1 T1 A3 C3 m3 n3, 60), (w.heap.size, shA x A n, 37), (w.heap.size, shA x A n, 37)] Z) := by
  have h0 := SB.out.below hbZ
  refine StL.cons (StL.cons (h0.cons h0.hd) ?_) ?_
  · rw [hZ]
    exact heap_before (heap_last _ _ _ hPB)
  · rw [hZ]
    exact heap_last _ _ _ (by simp [hQB])
 have RZ := Lib.hid (RB.out.below hbZ)
 rw [← hQB, ← hPB, ← hZ]
 clear hZ hPB hQB hbZ SB RB
 rcases ho : okSh x with _ | _
 case false =>
  obtain ⟨e1, e2, e3, e4, e5⟩ := HBAD.out ho
  subst e1 e2 e3 e4 e5
  clear ho
  go_wp2_with fail
  refine (KN.out _).mono ?_
  rintro e wk ⟨rfl, hb⟩
  have SK := Lib.hid (SZ.out.below hb)
  clear hb
  go_wp2_with fail
  go_ret
  exact ⟨rfl, SK.out.1⟩
 obtain ⟨e5, e1, e2, e6⟩ := HGOOD.out ho
 subst e5
 have HFE : Hid (f1 = (ff9 x false).1 ∧ f2 = (ff9 x true).1) := ⟨e1, e2⟩
 have HPR := Lib.hid e6
 have HO := Lib.hid ho
 have HO2 : Hid (er9 (okSh x) = 0) := by show er9 _ = 0; rw [ho]; rfl
 have HPX : Hid (prX x f1 S1 T1 false = true ∧ prX x f2 S2 T2 true = true) := by
  unfold prX
  rw [ho]
  exact ⟨e6.1, e6.2.1⟩
 clear ho e1 e2 e6 HBAD HGOOD
 go_upto_region 6 with fail
 have g0 : ∀ u, (ovr Z u).cell? ⟨w.heap.size, 0, none⟩ = some (I x.w) := cell_row9 (SZ.out.nth 3 rfl) (j := 0) rfl
 have g1 : ∀ u, (ovr Z u).cell? ⟨w.heap.size, 1, none⟩ = some (I x.h) := cell_row9 (SZ.out.nth 3 rfl) (j := 1) rfl
 have g2 : ∀ u, (ovr Z u).cell? ⟨w.heap.size, 2, none⟩ = some (I x.c.lo) := cell_row9 (SZ.out.nth 3 rfl) (j := 2) rfl
 have g3 : ∀ u, (ovr Z u).cell? ⟨w.heap.size, 3, none⟩ = some (I x.c.hi) := cell_row9 (SZ.out.nth 3 rfl) (j := 3) rfl
 have g4 : ∀ u, (ovr Z u).cell? ⟨w.heap.size, 4, none⟩ = some (.slice A x.s.length n) := cell_row9 (SZ.out.nth 3 rfl) (j := 4) rfl
 have g5 : ∀ u, (ovr Z u).cell? ⟨PB, 0, none⟩ = some (I f1.n) := cell_row9 (SZ.out.nth 1 rfl) (j := 0) rfl
 have g6 : ∀ u, (ovr Z u).cell? ⟨PB, 1, none⟩ = some (I f1.d) := cell_row9 (SZ.out.nth 1 rfl) (j := 1) rfl
 have g7 : ∀ u, (ovr Z u).cell? ⟨PB, 2, none⟩ = some (.slice A3 S1.length m3) := cell_row9 (SZ.out.nth 1 rfl) (j := 2) rfl
 have g8 : ∀ u, (ovr Z u).cell? ⟨PB, 3, none⟩ = some (.slice C3 T1.length n3) := cell_row9 (SZ.out.nth 1 rfl) (j := 3) rfl
 have CO : Hid (∀ z, Calls Try.prog 22 #[.agg (shA x A n)] (ovr Z z) (RetOs (ovr Z z) x)) := fun z => ownSheet_any x A n _ w.heap.size (by have := HC.out; omega) (SZ.out.below (ovr_below Z z)).1.size (HRD.out _ (SZ.out.below (ovr_below Z z)).1).1
 have CF : Hid (∀ z, Calls Try.prog 35 #[.agg #[I f1.n, I f1.d, .slice A3 S1.length m3, .slice C3 T1.length n3]] (ovr Z z) (RetOf (ovr Z z) f1 S1 T1)) := fun z => ownFlat_any f1 S1 T1 A3 C3 m3 n3 _ Z.heap.size (by have := HPR.out; omega) (ovr_below Z z).size (RZ.out.s1.below (ovr_below Z z)) (RZ.out.t1.below (ovr_below Z z))
 refine Dm.wp_region_late 8 [7] (fun j => if j = 1 then some (ShAt x) else if j = 3 then some (FlAt f1 S1 T1) else if j = 4 then some (fun u _ => u = .tuple #[.bool true, I 0]) else none) (by kernel_rfl) (by kernel_rfl) (by kernel_rfl) (by kernel_rfl) [] (E := 24) ⟨by kernel_rfl, alloc_rng9, fun j hj => by cases hj⟩ (by kernel_rfl) (fun i hi => by simp only [List.mem_cons, List.not_mem_nil, or_false] at hi; rcases hi with rfl; rfl) (fun c a d v w h => by cases d <;> exact h) (by kernel_rfl) ?_
 simp only [List.take_succ_cons, List.take_zero, List.drop_succ_cons, List.drop_zero]
 repeat (first | (refine Dk.wpG_one rfl rfl rfl ?_; intro K hK; go_big_quiet_op; go_big_quiet_on) | (refine Dk.wpG_skip rfl ?_; simp only [Act.put, List.setIfInBounds_toArray, List.set_cons_zero, List.set_cons_succ]))
 refine Dk.wpG_make (ShAt x) rfl rfl (fun w' hw' hk => ?_) (fun u hu => ?_)
 · obtain ⟨z, rfl⟩ := hw'
   go_simp
   exact os_grow (CO.out z)
 obtain ⟨_, _, A9, c9, rfl, _, _⟩ := hu
 simp only [Act.put, List.setIfInBounds_toArray, List.set_cons_zero, List.set_cons_succ]
 repeat (first | (refine Dk.wpG_one rfl rfl rfl ?_; intro K hK; go_big_quiet_op; go_big_quiet_on) | (refine Dk.wpG_skip rfl ?_; simp only [Act.put, List.setIfInBounds_toArray, List.set_cons_zero, List.set_cons_succ]))
 refine Dk.wpG_make (FlAt f1 S1 T1) rfl rfl (fun w' hw' hk => ?_) (fun u hu => ?_)
 · obtain ⟨z, rfl⟩ := hw'
   go_simp
   exact of_grow (CF.out z)
 obtain ⟨_, _, A8, m8, A7, m7, rfl, _, _⟩ := hu
 simp only [Act.put, List.setIfInBounds_toArray, List.set_cons_zero, List.set_cons_succ]
 repeat (first | (refine Dk.wpG_one rfl rfl rfl ?_; intro K hK; go_big_quiet_op; go_big_quiet_on) | (refine Dk.wpG_skip rfl ?_; simp only [Act.put, List.setIfInBounds_toArray, List.set_cons_zero, List.set_cons_succ]))
 refine Dk.wpG_make (fun u _ => u = .tuple #[.bool true, I 0]) rfl rfl (fun w' hw' hk => ?_) (fun u hu => ?_)
 · have q1 := (hk ⟨1, .data⟩ (by simp) rfl _ _ _ rfl rfl rfl (by simp) rfl).now.at
   have q2 := (hk ⟨3, .data⟩ (by simp) rfl _ _ _ rfl rfl rfl (by simp) rfl).now.at
   go_simp
   have hc := proves_any x f1 S1 T1 false A9 c9 A8 A7 m8 m7 w' w'.heap.size (Nat.le_refl _) q1.2 q2.1 q2.2 (by have := HPR.out; have := HC.out; unfold maxLen; omega)
   rw [HPX.out.1, HO2.out] at hc
   exact call_grow hc
 obtain ⟨_, _, rfl⟩ := hu
 simp only [Act.put, List.setIfInBounds_toArray, List.set_cons_zero, List.set_cons_succ]
 repeat (first | (refine Dk.wpG_one rfl rfl rfl ?_; intro K hK; go_big_quiet_op; go_big_quiet_on) | (refine Dk.wpG_skip rfl ?_; simp only [Act.put, List.setIfInBounds_toArray, List.set_cons_zero, List.set_cons_succ]))
 refine Dk.wpG_nil (fun w5 hw5 hG => ?_)
 have hbZ := hw5.le
 have S9 := Lib.hid (SZ.out.below hbZ)
 have R9 := Lib.hid (RZ.out.below hbZ)
 clear hG hw5 g0 g1 g2 g3 g4 g5 g6 g7 g8 CO CF SZ RZ hbZ
 refine Dl.wpTailH_cons (wp_assign _ (.bool true) rfl rfl ⟨trivial, ?_⟩)
 refine Dl.wpTailH_cons (wp_assign _ (I 0) rfl rfl ⟨trivial, ?_⟩)
 refine Dl.wpTailH_nil ?_
 simp only [Act.put, List.setIfInBounds_toArray, List.set_cons_zero, List.set_cons_succ]
 have SZ := S9
 have RZ := R9
 clear S9 R9
 obtain ⟨Z1, hZ1⟩ : ∃ v, v = w5 := ⟨_, rfl⟩
 subst hZ1
 go_upto_region 7 with fail
 have g0 : ∀ u, (ovr Z1 u).cell? ⟨w.heap.size, 0, none⟩ = some (I x.w) := cell_row9 (SZ.out.nth 3 rfl) (j := 0) rfl
 have g1 : ∀ u, (ovr Z1 u).cell? ⟨w.heap.size, 1, none⟩ = some (I x.h) := cell_row9 (SZ.out.nth 3 rfl) (j := 1) rfl
 have g2 : ∀ u, (ovr Z1 u).cell? ⟨w.heap.size, 2, none⟩ = some (I x.c.lo) := cell_row9 (SZ.out.nth 3 rfl) (j := 2) rfl
 have g3 : ∀ u, (ovr Z1 u).cell? ⟨w.heap.size, 3, none⟩ = some (I x.c.hi) := cell_row9 (SZ.out.nth 3 rfl) (j := 3) rfl
 have g4 : ∀ u, (ovr Z1 u).cell? ⟨w.heap.size, 4, none⟩ = some (.slice A x.s.length n) := cell_row9 (SZ.out.nth 3 rfl) (j := 4) rfl
 have g5 : ∀ u, (ovr Z1 u).cell? ⟨QB, 0, none⟩ = some (I f2.n) := cell_row9 (SZ.out.nth 0 rfl) (j := 0) rfl
 have g6 : ∀ u, (ovr Z1 u).cell? ⟨QB, 1, none⟩ = some (I f2.d) := cell_row9 (SZ.out.nth 0 rfl) (j := 1) rfl
 have g7 : ∀ u, (ovr Z1 u).cell? ⟨QB, 2, none⟩ = some (.slice A4 S2.length m4) := cell_row9 (SZ.out.nth 0 rfl) (j := 2) rfl
 have g8 : ∀ u, (ovr Z1 u).cell? ⟨QB, 3, none⟩ = some (.slice C4 T2.length n4) := cell_row9 (SZ.out.nth 0 rfl) (j := 3) rfl
 have CO : Hid (∀ z, Calls Try.prog 22 #[.agg (shA x A n)] (ovr Z1 z) (RetOs (ovr Z1 z) x)) := fun z => ownSheet_any x A n _ w.heap.size (by have := HC.out; omega) (SZ.out.below (ovr_below Z1 z)).1.size (HRD.out _ (SZ.out.below (ovr_below Z1 z)).1).1
 have CF : Hid (∀ z, Calls Try.prog 35 #[.agg #[I f2.n, I f2.d, .slice A4 S2.length m4, .slice C4 T2.length n4]] (ovr Z1 z) (RetOf (ovr Z1 z) f2 S2 T2)) := fun z => ownFlat_any f2 S2 T2 A4 C4 m4 n4 _ Z1.heap.size (by have := HPR.out; omega) (ovr_below Z1 z).size (RZ.out.s2.below (ovr_below Z1 z)) (RZ.out.t2.below (ovr_below Z1 z))
 refine Dm.wp_region_late 8 [7] (fun j => if j = 1 then some (ShAt x) else if j = 3 then some (FlAt f2 S2 T2) else if j = 4 then some (fun u _ => u = .tuple #[.bool true, I 0]) else none) (by kernel_rfl) (by kernel_rfl) (by kernel_rfl) (by kernel_rfl) [] (E := 24) ⟨by kernel_rfl, alloc_rng9, fun j hj => by cases hj⟩ (by kernel_rfl) (fun i hi => by simp only [List.mem_cons, List.not_mem_nil, or_false] at hi; rcases hi with rfl; rfl) (fun c a d v w h => by cases d <;> exact h) (by kernel_rfl) ?_
 simp only [List.take_succ_cons, List.take_zero, List.drop_succ_cons, List.drop_zero]
 repeat (first | (refine Dk.wpG_one rfl rfl rfl ?_; intro K hK; go_big_quiet_op; go_big_quiet_on) | (refine Dk.wpG_skip rfl ?_; simp only [Act.put, List.setIfInBounds_toArray, List.set_cons_zero, List.set_cons_succ]))
 refine Dk.wpG_make (ShAt x) rfl rfl (fun w' hw' hk => ?_) (fun u hu => ?_)
 · obtain ⟨z, rfl⟩ := hw'
   go_simp
   exact os_grow (CO.out z)
 obtain ⟨_, _, A9, c9, rfl, _, _⟩ := hu
 simp only [Act.put, List.setIfInBounds_toArray, List.set_cons_zero, List.set_cons_succ]
 repeat (first | (refine Dk.wpG_one rfl rfl rfl ?_; intro K hK; go_big_quiet_op; go_big_quiet_on) | (refine Dk.wpG_skip rfl ?_; simp only [Act.put, List.setIfInBounds_toArray, List.set_cons_zero, List.set_cons_succ]))
 refine Dk.wpG_make (FlAt f2 S2 T2) rfl rfl (fun w' hw' hk => ?_) (fun u hu => ?_)
 · obtain ⟨z, rfl⟩ := hw'
   go_simp
   exact of_grow (CF.out z)
 obtain ⟨_, _, A8, m8, A7, m7, rfl, _, _⟩ := hu
 simp only [Act.put, List.setIfInBounds_toArray, List.set_cons_zero, List.set_cons_succ]
 repeat (first | (refine Dk.wpG_one rfl rfl rfl ?_; intro K hK; go_big_quiet_op; go_big_quiet_on) | (refine Dk.wpG_skip rfl ?_; simp only [Act.put, List.setIfInBounds_toArray, List.set_cons_zero, List.set_cons_succ]))
 refine Dk.wpG_make (fun u _ => u = .tuple #[.bool true, I 0]) rfl rfl (fun w' hw' hk => ?_) (fun u hu => ?_)
 · have q1 := (hk ⟨1, .data⟩ (by simp) rfl _ _ _ rfl rfl rfl (by simp) rfl).now.at
   have q2 := (hk ⟨3, .data⟩ (by simp) rfl _ _ _ rfl rfl rfl (by simp) rfl).now.at
   go_simp
   have hc := proves_any x f2 S2 T2 true A9 c9 A8 A7 m8 m7 w' w'.heap.size (Nat.le_refl _) q1.2 q2.1 q2.2 (by have := HPR.out; have := HC.out; unfold maxLen; omega)
   rw [HPX.out.2, HO2.out] at hc
   exact call_grow hc
 obtain ⟨_, _, rfl⟩ := hu
 simp only [Act.put, List.setIfInBounds_toArray, List.set_cons_zero, List.set_cons_succ]
 repeat (first | (refine Dk.wpG_one rfl rfl rfl ?_; intro K hK; go_big_quiet_op; go_big_quiet_on) | (refine Dk.wpG_skip rfl ?_; simp only [Act.put, List.setIfInBounds_toArray, List.set_cons_zero, List.set_cons_succ]))
 refine Dk.wpG_nil (fun w5 hw5 hG => ?_)
 have hbZ := hw5.le
 have S9 := Lib.hid (SZ.out.below hbZ)
 have R9 := Lib.hid (RZ.out.below hbZ)
 clear hG hw5 g0 g1 g2 g3 g4 g5 g6 g7 g8 CO CF SZ RZ hbZ
 refine Dl.wpTailH_cons (wp_assign _ (.bool true) rfl rfl ⟨trivial, ?_⟩)
 refine Dl.wpTailH_cons (wp_assign _ (I 0) rfl rfl ⟨trivial, ?_⟩)
 refine Dl.wpTailH_nil ?_
 simp only [Act.put, List.setIfInBounds_toArray, List.set_cons_zero, List.set_cons_succ]
 have SZ := S9
 have RZ := R9
 clear S9 R9
 obtain ⟨Z2, hZ2⟩ : ∃ v, v = w5 := ⟨_, rfl⟩
 subst hZ2
 have HLT2 := Lib.hid (prR_sites HPR.out.2.1)
 have l0 : Z2.cell? ⟨QB, 2, none⟩ = some (.slice A4 S2.length m4) := (cell_of_row _ _ 2 _ _ _ SZ.out.hd).trans rfl
 have l1 : Z2.cell? ⟨QB, 3, none⟩ = some (.slice C4 T2.length n4) := (cell_of_row _ _ 3 _ _ _ SZ.out.hd).trans rfl
 have l2 : ((S2.length : Int) != (T2.length : Int)) = false := by rw [HLT2.out.1]; exact bne_self_eq_false _
 go_upto_region 10 with fail
 clear l0 l1 l2
 go_upto_region 11 with fail
 obtain ⟨BB, hBB⟩ : ∃ q, q = Z2.heap.size := ⟨_, rfl⟩
 obtain ⟨X, hX⟩ : ∃ Z, Z = (Z2.alloc (.cells #[] 3)).alloc (.cells #[] 3) := ⟨_, rfl⟩
 have hbX : Below Z2.heap.size Z2 X := by rw [hX]; exact ((Below.refl _ _).alloc (Nat.le_refl _) _).alloc (by simp) _
 have SX := Lib.hid (SZ.out.below hbX)
 have RX := Lib.hid (RZ.out.below hbX)
 rw [← hBB, ← hX]
 clear hBB hX hbX SZ RZ
 obtain ⟨i4, hi4, kz0, kz1, kz2⟩ := info_parts int9_info
 go_wp2_with fail
 go_loopw [13, 11] (fun iv zv wr => ∃ i : Nat, i ≤ x.s.length ∧ iv = .int .i64 i ∧ SoC 3 1 X.heap.size i ((List.range i).map fun k => I (plc (at0 x.s k) (at0 hs k))) zv wr ∧ Below X.heap.size X wr) (fun iv _ _ => x.s.length - (intOf iv).toNat)
 case atStart => exact ⟨0, Nat.zero_le _, rfl, .inl ⟨rfl, rfl, _, rfl⟩, Below.refl _ _⟩
 case round =>
  obtain ⟨i, hi, rfl, hso, hbx⟩ := hrel
  rename World => Y
  have HSO := Lib.hid hso
  have HBX := Lib.hid hbx
  have S7 := Lib.hid (SX.out.below hbx)
  clear hso hbx
  have b4 : Y.cell? ⟨w.heap.size, 4, none⟩ = some (.slice A x.s.length n) := (cell_of_row _ _ _ _ _ _ (S7.out.nth 2 rfl)).trans rfl
  by_cases hlt : i < x.s.length
  case pos =>
   have HLT := Lib.hid hlt
   have ki : decide ((i : Int) < (x.s.length : Int)) = true := decide_eq_true (by omega)
   have kin : i < x.s.length := hlt
   have i36 : i ≤ 36 := by have := HC.out; omega
   obtain ⟨xb, xo, hxA, _, e0, e1⟩ := (HRD.out Y S7.out.1).1.rng hlt
   obtain ⟨ti, hti⟩ : ∃ v, at0 hs i = v := ⟨_, rfl⟩
   obtain ⟨xi, hxi⟩ : ∃ v, at0 x.s i = v := ⟨_, rfl⟩
   obtain ⟨zi, hzi⟩ : ∃ v, plc xi ti = v := ⟨_, rfl⟩
   have HZI : Hid (plc (at0 x.s i) (at0 hs i) = zi) := by show _ = zi; rw [hti, hxi, hzi]
   rw [hxi] at e0 e1
   have CP1 : Hid (∀ u, Calls Try.prog 43 #[.slice HA hs.length hc, I (i : Int)] (ovr Y u) fun e w' => e = .returned (Un.H16 ti) ∧ Below (ovr Y u).heap.size (ovr Y u) w') := fun u => by
        rw [← hti]
        exact pick_any hs i HA hc _ w.heap.size (HRD.out _ (S7.out.below (ovr_below Y u)).1).2.1
   have CL1 : Hid (∀ V, Calls Try.prog 42 #[.agg #[I xi.lo, I xi.hi], Un.H16 ti] V fun e w' => e = .returned (I zi) ∧ Below V.heap.size V w') := fun V => by rw [← hzi]; exact place_any xi ti V (by rw [← hti]; exact H16.out i)
   go_upto_region 14 with fail
   have b4u := ovr_cell b4
   rw [hxA] at b4u
   have v1 := ovr_cell e0
   have v2 := ovr_cell e1
   clear hti hxi hzi hxA e0 e1 b4 hi
   refine wp_region_seq2 11 (fun j => if j = 8 then some (fun u _ => u = Un.H16 ti) else if j = 9 then some (fun u _ => u = I zi) else if j = 10 then some (SlN Y #[I zi] 3 1) else none) (by kernel_rfl) (by kernel_rfl) (by kernel_rfl) (by kernel_rfl) (by kernel_rfl) ?_
   simp only [List.take_succ_cons, List.take_zero, List.drop_succ_cons, List.drop_zero]
   repeat (first | (refine wpG_one rfl rfl rfl ?_; intro K hK; go_big_quiet_op; go_big_quiet_on) | (refine wpG_skip rfl ?_; simp only [Act.put, List.setIfInBounds_toArray, List.set_cons_zero, List.set_cons_succ]))
   refine wpG_make (fun u _ => u = Un.H16 ti) rfl rfl (fun w' hw' hk => ?_) (fun u hu => ?_)
   · obtain ⟨z, rfl⟩ := hw'
     go_simp
     exact call_grow (CP1.out z)
   obtain ⟨_, _, rfl⟩ := hu
   simp only [Act.put, List.setIfInBounds_toArray, List.set_cons_zero, List.set_cons_succ]
   repeat (first | (refine wpG_one rfl rfl rfl ?_; intro K hK; go_big_quiet_op; go_big_quiet_on) | (refine wpG_skip rfl ?_; simp only [Act.put, List.setIfInBounds_toArray, List.set_cons_zero, List.set_cons_succ]))
   refine wpG_make (fun u _ => u = I zi) rfl rfl (fun w' hw' hk => ?_) (fun u hu => ?_)
   · go_simp
     exact call_grow (CL1.out w')
   obtain ⟨_, _, rfl⟩ := hu
   simp only [Act.put, List.setIfInBounds_toArray, List.set_cons_zero, List.set_cons_succ]
   repeat (first | (refine wpG_one rfl rfl rfl ?_; intro K hK; go_big_quiet_op; go_big_quiet_on) | (refine wpG_skip rfl ?_; simp only [Act.put, List.setIfInBounds_toArray, List.set_cons_zero, List.set_cons_succ]))
   refine wpG_make (SlN Y #[I zi] 3 1) rfl rfl (fun w' hw' hk => ?_) (fun u hu => ?_)
   · go_simp
     exact sln_grow hw'
   obtain ⟨_, _, SB, rfl, _, _⟩ := hu
   simp only [Act.put, List.setIfInBounds_toArray, List.set_cons_zero, List.set_cons_succ]
   repeat (first | (refine wpG_one rfl rfl rfl ?_; intro K hK; go_big_quiet_op; go_big_quiet_on) | (refine wpG_skip rfl ?_; simp only [Act.put, List.setIfInBounds_toArray, List.set_cons_zero, List.set_cons_succ]))
   refine wpG_nil (fun w5 hw5 hG => ?_)
   have hB := hG.2.now.at
   have hle : Below Y.heap.size Y w5 := hw5.le
   have hO := HSO.out.over hle
   have hbw := HBX.out.trans (hle.mono HBX.out.size)
   clear hG hw5 hle b4u v1 v2
   refine wpTailIn_cons Wd.wide (by intro c h; cases h) ?_
   refine wp_app_soc _ _ 30 rfl 3 i4 _ 1 8 Try.underlying30 hi4 kz0 kz1 kz2 rfl (by decide) X.heap.size i _ _ rfl hO ⟨SB, 0, none⟩ 1 [I zi] rfl rfl (news_lit hB.1) (by simp [Value.oneCell']) hbw.size (by omega) (by decide) (fun v2 w6 hO2 hb6 => ?_)
   have HO2x : Hid (SoC 3 1 X.heap.size (i + 1) ((List.range (i + 1)).map fun k => I (plc (at0 x.s k) (at0 hs k))) v2 w6) := by
        show SoC _ _ _ _ _ _ _
        rw [List.range_succ, List.map_append]
        show SoC _ _ _ _ (_ ++ [I (plc (at0 x.s i) (at0 hs i))]) _ _
        rw [HZI.out]
        exact hO2
   have HB6 := Lib.hid (hbw.trans hb6)
   clear hO hbw hO2 hb6 hB
   refine wpTailIn_cons Wd.wide (by intro c h; cases h) ?_
   unfold Oper.wp
   go_simp
   refine wpTailIn_nil ?_
   (try simp only [Act.put, List.setIfInBounds_toArray, List.set_cons_zero, List.set_cons_succ])
   go_wp2_with fail
   go_roundw
   case rel => exact ⟨i + 1, HLT.out, by go_num, HO2x.out, HB6.out⟩
   case measure => have := HLT.out; simp [intOf]; omega
  obtain rfl : i = x.s.length := by omega
  have ki : decide ((x.s.length : Int) < (x.s.length : Int)) = false := decide_eq_false (by omega)
  obtain ⟨zl, hzl⟩ : ∃ l, (List.range x.s.length).map (fun k => plc (at0 x.s k) (at0 hs k)) = l := ⟨_, rfl⟩
  have hzn : zl.length = x.s.length := by rw [← hzl]; simp
  have HZR : Hid (∀ k, k < x.s.length → (at0 x.s k).lo ≤ at0 zl k ∧ at0 zl k ≤ (at0 x.s k).hi) := fun k hk => by
   have e : at0 zl k = plc (at0 x.s k) (at0 hs k) := by
        rw [← hzl]
        unfold at0
        rw [List.getD_eq_getElem?_getD, List.getElem?_map, List.getElem?_range hk]
        rfl
   rw [e]
   exact plc_in (by have := all9_at (okSh_iff.1 HO.out).2.2.2.1 hk; omega)
  have hfl : ((List.range x.s.length).map fun k => I (plc (at0 x.s k) (at0 hs k))) = flat 1 (rI zl) x.s.length := by
   have h1 := ints_flat zl
   rw [hzn, ← hzl, List.map_map] at h1
   rw [← hzl]
   exact h1
  have hs2 := HSO.out
  rw [hfl] at hs2
  obtain ⟨ZA, zc, rfl, _, _, hzr⟩ := hs2.rd
  have HZN := Lib.hid hzn
  have SY := S7
  have RY := Lib.hid (RX.out.below HBX.out)
  have HZ := Lib.hid hzr
  have h4 : 4 ≤ x.s.length := by
   obtain ⟨WW, HH, eW, eH, bW, bH, eL⟩ := sh_nat HO.out
   rw [eL]
   exact Nat.mul_le_mul bW.1 bH.1
  have H4 := Lib.hid h4
  clear hi hlt hzl hzn hfl hs2 hzr h4 HSO S7 RX SX
  go_upto_region 15 with fail
  clear ki b4
  go_wp2_with (with_reducible show wpList _ _ _ (⟨some 106, _, _, _, _, _⟩ :: _) _ _; refine Hid.out ?_)
  refine Lib.hid ?_
  refine wpList_app_litS rfl _ _ 30 rfl 3 i4 _ 1 8 Try.underlying30 hi4 kz0 kz1 kz2 rfl (by decide) _ rfl ZA x.s.length zc rfl (rI zl) HZ.out (by have := HC.out; omega) (by have := H4.out; omega) (by decide) ?_
  intro v2 wA hso hbA
  simp only [Act.put, List.setIfInBounds_toArray, List.set_cons_zero, List.set_cons_succ]
  obtain ⟨g, gc, rfl, hgB, hrow⟩ := soc_row9 hso (by have := H4.out; omega)
  have HG := Lib.hid hgB
  have HR0 : Hid (Row1 g 3 x.s.length (wzK (at0 x.s) S2 T2 (at0 zl) 0) wA) := hrow
  have HB0 := Lib.hid hbA
  clear hso hgB hrow hbA
  go_upto_region 16 with fail
  go_wp2_with fail
  go_loopw [14, 15] (fun iv tv wr => ∃ i : Nat, i ≤ S2.length ∧ iv = .int .i64 i ∧ Below Y.heap.size Y wr ∧ Row1 g 3 x.s.length (wzK (at0 x.s) S2 T2 (at0 zl) i) wr) (fun iv _ _ => S2.length - (intOf iv).toNat)
  case atStart => exact ⟨0, Nat.zero_le _, rfl, HB0.out, HR0.out⟩
  case round =>
   obtain ⟨i, hi, rfl, hbx, hrow⟩ := hrel
   rename World => U
   have HBX2 := Lib.hid hbx
   have HROW := Lib.hid hrow
   have SU := Lib.hid (SY.out.below hbx)
   have RU := Lib.hid (RY.out.below hbx)
   clear hbx hrow HB0 HR0
   have b2 : U.cell? ⟨QB, 2, none⟩ = some (.slice A4 S2.length m4) := (cell_of_row _ _ 2 _ _ _ SU.out.hd).trans rfl
   by_cases hlt : i < S2.length
   case pos =>
        have HLT := Lib.hid hlt
        have ki : decide ((i : Int) < (S2.length : Int)) = true := decide_eq_true (by omega)
        have kin : i < S2.length := hlt
        have i36 : i ≤ 4 := by have := HPR.out; omega
        obtain ⟨sb, so, hSA, _, e0⟩ := rd_int9 RU.out.s2 hlt
        obtain ⟨tb, to9, hTA, _, e1⟩ := rd_int9 RU.out.t2 (show i < T2.length by rw [← HLT2.out.1]; exact hlt)
        have ha := HLT2.out.2 i hlt
        obtain ⟨a, hak⟩ : ∃ a : Nat, at0 S2 i = (a : Int) := ⟨(at0 S2 i).toNat, by omega⟩
        rw [hak] at e0 ha
        have kan : a < x.s.length := by omega
        have HAN := Lib.hid kan
        have a36 : a ≤ 36 := by have := HC.out; omega
        obtain ⟨t, ht⟩ : ∃ t, at0 T2 i = t := ⟨_, rfl⟩
        have HT := Lib.hid ht
        rw [ht] at e1
        obtain ⟨xb, xo, hxA, _, g0, g1⟩ := (HRD.out U SU.out.1).1.rng kan
        obtain ⟨xa, hxa⟩ : ∃ v, at0 x.s a = v := ⟨_, rfl⟩
        have HXA := Lib.hid hxa
        rw [hxa] at g0 g1
        have HWZ : Hid (∀ j, wzK (at0 x.s) S2 T2 (at0 zl) (i + 1) j = if j = a then (if 0 < t then xa.hi else xa.lo) else wzK (at0 x.s) S2 T2 (at0 zl) i j) := fun j => by
         show (if j = (at0 S2 i).toNat then (if 0 < at0 T2 i then (at0 x.s j).hi else (at0 x.s j).lo) else _) = _
         rw [hak, ht, Int.toNat_natCast]
         by_cases hj : j = a
         · subst hj
           rw [if_pos rfl, if_pos rfl, hxa]
         · rw [if_neg hj, if_neg hj]
        have d1 : decide ((a : Int) < 0) = false := decide_eq_false (by omega)
        have d2 : decide ((x.s.length : Int) ≤ (a : Int)) = false := decide_eq_false (by omega)
        have b4 : U.cell? ⟨w.heap.size, 4, none⟩ = some (.slice A x.s.length n) := (cell_of_row _ _ 4 _ _ _ (SU.out.nth 2 rfl)).trans rfl
        rw [hSA] at b2
        rw [hxA] at b4
        clear hxa ht hak ha hSA hxA hi
        go_upto_region 22 with fail
        clear d1 d2 e0 b2
        obtain ⟨yo, hyo⟩ : ∃ y, wzK (at0 x.s) S2 T2 (at0 zl) i a = y := ⟨_, rfl⟩
        have c0 := HROW.out.cell (k := a) kan
        rw [hyo] at c0
        have c1 := HROW.out.frozen a
        clear hyo
        go_upto_region 23 with fail
        have HRA : Hid (Row1 g 3 x.s.length (fun j => if j = a then xa.lo else wzK (at0 x.s) S2 T2 (at0 zl) i j) (U.setCell ⟨g, a, none⟩ (I xa.lo))) := by
         have h := HROW.out.set (i := a) (f' := fun j => if j = a then xa.lo else wzK (at0 x.s) S2 T2 (at0 zl) i j) (fun j _ hj => if_neg hj)
         simp only [if_true] at h
         exact h
        have hbs : Below Y.heap.size Y (U.setCell ⟨g, a, none⟩ (I xa.lo)) := sc_below HBX2.out HG.out _ _
        obtain ⟨U2, hU2⟩ : ∃ V, V = U.setCell ⟨g, a, none⟩ (I xa.lo) := ⟨_, rfl⟩
        rw [← hU2] at HRA hbs ⊢
        have HB2 := Lib.hid hbs
        have S8 := Lib.hid (SY.out.below hbs)
        have R8 := Lib.hid (RY.out.below hbs)
        clear hU2 hbs HBX2 HROW SU RU c0 c1 g0 g1 b4 e1
        have kit : i < T2.length := by rw [← HLT2.out.1]; exact hlt
        obtain ⟨tb2, to2, hTA2, _, e1⟩ := rd_int9 R8.out.t2 kit
        rw [HT.out] at e1
        have b3 : U2.cell? ⟨QB, 3, none⟩ = some (.slice C4 T2.length n4) := (cell_of_row _ _ 3 _ _ _ S8.out.hd).trans rfl
        rw [hTA2] at b3
        clear hTA2 hTA
        by_cases h0 : 0 < t
        case neg =>
         have d1 : decide (0 < t) = false := decide_eq_false h0
         have HRF : Hid (Row1 g 3 x.s.length (wzK (at0 x.s) S2 T2 (at0 zl) (i + 1)) U2) := HRA.cong fun j _ => by
          rw [HWZ.out j]
          by_cases hj : j = a
          · rw [if_pos hj, if_neg h0, if_pos hj]
          · rw [if_neg hj, if_neg hj]
         clear h0 HRA
         go_wp2_with fail
         go_roundw
         case rel => exact ⟨i + 1, HLT.out, by go_num, HB2.out, HRF.out⟩
         case measure => have := HLT.out; simp [intOf]; omega
        have d1 : decide (0 < t) = true := decide_eq_true h0
        have HT0 := Lib.hid h0
        clear h0
        go_upto_region 24 with fail
        clear d1 e1 b3
        obtain ⟨xb3, xo3, hxA3, _, g0, g1⟩ := (HRD.out U2 S8.out.1).1.rng kan
        have b4 : U2.cell? ⟨w.heap.size, 4, none⟩ = some (.slice A x.s.length n) := (cell_of_row _ _ 4 _ _ _ (S8.out.nth 2 rfl)).trans rfl
        rw [hxA3] at b4
        rw [HXA.out] at g0 g1
        have c0 := Row1.cell HRA (k := a) kan
        simp only [if_true] at c0
        have c1 := Row1.frozen HRA a
        have HRA9 := Lib.hid HRA
        clear hxA3 HRA
        go_wp2_with fail
        have HRF : Hid (Row1 g 3 x.s.length (wzK (at0 x.s) S2 T2 (at0 zl) (i + 1)) (U2.setCell ⟨g, a, none⟩ (I xa.hi))) := by
         have h := HRA9.out.set (i := a) (f' := wzK (at0 x.s) S2 T2 (at0 zl) (i + 1)) (fun j _ hj => by rw [HWZ.out j, if_neg hj, if_neg hj])
         rw [HWZ.out a, if_pos rfl, if_pos HT0.out] at h
         exact h
        have HB3 : Hid (Below Y.heap.size Y (U2.setCell ⟨g, a, none⟩ (I xa.hi))) := sc_below HB2.out HG.out _ _
        clear g0 g1 c0 c1 b4
        go_roundw
        case rel => exact ⟨i + 1, HLT.out, by go_num, HB3.out, HRF.out⟩
        case measure => have := HLT.out; simp [intOf]; omega
   obtain rfl : i = S2.length := by omega
   have ki : decide ((S2.length : Int) < (S2.length : Int)) = false := decide_eq_false (by omega)
   obtain ⟨wl, hwl⟩ : ∃ l, (List.range x.s.length).map (wzK (at0 x.s) S2 T2 (at0 zl) S2.length) = l := ⟨_, rfl⟩
   have hwn : wl.length = x.s.length := by rw [← hwl]; simp
   have hwa : ∀ k, k < x.s.length → at0 wl k = wzK (at0 x.s) S2 T2 (at0 zl) S2.length k := fun k hk => by
        rw [← hwl]
        unfold at0
        rw [List.getD_eq_getElem?_getD, List.getElem?_map, List.getElem?_range hk]
        rfl
   have hwr := HROW.out.rdL
   rw [hwl] at hwr
   have hInB : ∀ z : List Int, z.length = x.s.length → (∀ k, k < x.s.length → (at0 x.s k).lo ≤ at0 z k ∧ at0 z k ≤ (at0 x.s k).hi) → InH z := fun z hl h j hj => by
        have h1 := h j (by omega)
        have h2 := sh_z HO.out j (by omega)
        omega
   have hwz : ∀ k, k < x.s.length → (at0 x.s k).lo ≤ at0 wl k ∧ at0 wl k ≤ (at0 x.s k).hi := fun k hk => by rw [hwa k hk]; exact wz_in HZR.out _ k hk
   have HIZ : Hid (InH zl ∧ InH wl) := ⟨hInB zl HZN.out HZR.out, hInB wl hwn hwz⟩
   have HWN := Lib.hid hwn
   have hat : ∀ q ∈ shG x, q.at_ < x.s.length := grid_at9
   have HWF : Hid (ds9 (fl9 (shG x) (ex9 (at0 wl)) true) = f2) := by
        show _ = _
        rw [flat_same (zs := ex9 (at0 wl)) (zs' := ex9 (wzK (at0 x.s) S2 T2 (at0 zl) S2.length)) hat (fun k hk => by unfold ex9; rw [hwa k hk]) true, HFE.out.2]
        exact worst_flat HO.out (by rw [← HFE.out.2]; exact HPR.out.2.1) HZR.out true
   have HZF : Hid (Lef f1 (ds9 (fl9 (shG x) (ex9 (at0 zl)) true)) ∧ Lef (ds9 (fl9 (shG x) (ex9 (at0 zl)) true)) f2) := by
        have h := flat_between hat HZR.out true
        rw [HFE.out.1, HFE.out.2]
        exact h
   have HZ2 : Hid (∀ V, Below U.heap.size U V → Rd V U.heap.size 1 ZA x.s.length (rI zl) ∧ Rd V U.heap.size 1 (some ⟨g, 0, none⟩) x.s.length (rI wl)) := fun V hV => ⟨((HZ.out.below HBX2.out).more HBX2.out.size).below hV, hwr.below hV⟩
   clear hwl hwn hwa hwr hInB hwz hat hlt hi HZ HROW HBX2 HZR SY RY RU
   have b0 : U.cell? ⟨w.heap.size, 0, none⟩ = some (I x.w) := (cell_of_row _ _ 0 _ _ _ (SU.out.nth 2 rfl)).trans rfl
   have b1 : U.cell? ⟨w.heap.size, 1, none⟩ = some (I x.h) := (cell_of_row _ _ 1 _ _ _ (SU.out.nth 2 rfl)).trans rfl
   go_upto_region 25 with fail
   clear ki b2
   have CZ : Hid (Calls Try.prog 28 #[I x.w, I x.h, .slice ZA x.s.length zc] U fun e w' => (∃ P f er, e = .returned (.tuple #[.agg #[I P.a, I P.b, I P.c, I P.d, I f.n, I f.d], I er]) ∧ BestOk x.w x.h zl P f er) ∧ Below U.heap.size U w') := by
        have h := best_any x.w x.h zl ZA zc U.heap.size U (by rw [HZN.out]; have := HC.out; omega) (Nat.le_refl _) (by rw [HZN.out]; exact (HZ2.out U (Below.refl _ _)).1)
        rw [HZN.out] at h
        exact h
   go_wp2_with fail
   refine CZ.out.mono ?_
   rintro e w5 ⟨⟨P1, fz, er1, rfl, hok⟩, hb⟩
   obtain ⟨e1, e2, hfk⟩ := best_sh HO.out HZN.out HIZ.out.1 hok
   subst e1
   rw [← e2] at HZF
   have HFK := Lib.hid hfk
   have S5 := Lib.hid (SU.out.below hb)
   have HB5 := Lib.hid hb
   clear hb hok SU CZ b0 b1 e2 hfk
   go_upto_region 26 with (with_reducible show wpList _ _ _ _ _ _; refine wpList_store_row rfl 51 _ _ rfl w5.heap.size rfl _ _ (heap_last _ _ _ rfl) #[I P1.a, I P1.b, I P1.c, I P1.d, I fz.n, I fz.d] rfl (by simp [Value.oneCell']) rfl (by kernel_rfl) ?_)
   have S6 := Lib.hid (S5.out.put #[I 0, I 0, I 0, I 0, I 0, I 0] #[I P1.a, I P1.b, I P1.c, I P1.d, I fz.n, I fz.d] 51)
   have HB6 := Lib.hid (HB5.out.trans ((put_bel w5 #[I 0, I 0, I 0, I 0, I 0, I 0] #[I P1.a, I P1.b, I P1.c, I P1.d, I fz.n, I fz.d] 51).mono HB5.out.size))
   obtain ⟨PZ, hPZ⟩ : ∃ q, q = w5.heap.size := ⟨_, rfl⟩
   refine name_w fun W6 hW6 => ?_
   rw [← hW6] at S6 HB6
   rw [← hPZ] at S6 ⊢
   clear hW6 hPZ S5 HB5
   have CW : Hid (Calls Try.prog 28 #[I x.w, I x.h, .slice (some ⟨g, 0, none⟩) x.s.length gc] W6 fun e w' => (∃ P f er, e = .returned (.tuple #[.agg #[I P.a, I P.b, I P.c, I P.d, I f.n, I f.d], I er]) ∧ BestOk x.w x.h wl P f er) ∧ Below W6.heap.size W6 w') := by
        have h := best_any x.w x.h wl (some ⟨g, 0, none⟩) gc W6.heap.size W6 (by rw [HWN.out]; have := HC.out; omega) (Nat.le_refl _) (by rw [HWN.out]; exact (HZ2.out W6 HB6.out).2.more HB6.out.size)
        rw [HWN.out] at h
        exact h
   have b0 : W6.cell? ⟨w.heap.size, 0, none⟩ = some (I x.w) := (cell_of_row _ _ 0 _ _ _ (S6.out.nth 3 rfl)).trans rfl
   have b1 : W6.cell? ⟨w.heap.size, 1, none⟩ = some (I x.h) := (cell_of_row _ _ 1 _ _ _ (S6.out.nth 3 rfl)).trans rfl
   go_wp2_with fail
   refine CW.out.mono ?_
   rintro e w7 ⟨⟨P2, fw, er2, rfl, hok⟩, hb⟩
   obtain ⟨e1, e2, _⟩ := best_sh HO.out HWN.out HIZ.out.2 hok
   subst e1
   rw [HWF.out] at e2
   subst e2
   have S7 := Lib.hid (S6.out.below hb)
   clear hb hok S6 HB6 CW b0 b1 HWF HZ2 HIZ HZN HWN
   go_upto_region 27 with (with_reducible show wpList _ _ _ _ _ _; refine wpList_store_row rfl 51 _ _ rfl w7.heap.size rfl _ _ (heap_last _ _ _ rfl) #[I P2.a, I P2.b, I P2.c, I P2.d, I fw.n, I fw.d] rfl (by simp [Value.oneCell']) rfl (by kernel_rfl) ?_)
   have S8 := Lib.hid (S7.out.put #[I 0, I 0, I 0, I 0, I 0, I 0] #[I P2.a, I P2.b, I P2.c, I P2.d, I fw.n, I fw.d] 51)
   obtain ⟨PW, hPW⟩ : ∃ q, q = w7.heap.size := ⟨_, rfl⟩
   refine name_w fun W8 hW8 => ?_
   rw [← hW8] at S8
   rw [← hPW] at S8 ⊢
   clear hW8 hPW S7
   have t0 : W8.cell? ⟨PW, 4, none⟩ = some (I fw.n) := (cell_of_row _ _ 4 _ _ _ (S8.out.nth 0 rfl)).trans rfl
   have t1 : W8.cell? ⟨PW, 5, none⟩ = some (I fw.d) := (cell_of_row _ _ 5 _ _ _ (S8.out.nth 0 rfl)).trans rfl
   have t2 : W8.cell? ⟨QB, 0, none⟩ = some (I fw.n) := (cell_of_row _ _ 0 _ _ _ (S8.out.nth 2 rfl)).trans rfl
   have t3 : W8.cell? ⟨QB, 1, none⟩ = some (I fw.d) := (cell_of_row _ _ 1 _ _ _ (S8.out.nth 2 rfl)).trans rfl
   go_upto_region 29 with fail
   clear t0 t1 t2 t3
   have hk1 : fok f1 = true := by rw [HFE.out.1]; exact ff_fok HO.out false
   have hk2 : fok fw = true := by rw [HFE.out.2]; exact ff_fok HO.out true
   obtain ⟨a2, a1⟩ := co_ge HFK.out hk1 HZF.out.1
   obtain ⟨d2, d1⟩ := co_le HFK.out hk2 HZF.out.2
   obtain ⟨cx, hcx⟩ : ∃ c, coF fz f1 = c := ⟨_, rfl⟩
   obtain ⟨cy, hcy⟩ : ∃ c, coF fz fw = c := ⟨_, rfl⟩
   have CX : Hid (∀ V, Calls Try.prog 45 #[.agg #[I fz.n, I fz.d], .agg #[I f1.n, I f1.d]] V fun e w' => e = .returned (.tuple #[I cx.1, I 0]) ∧ Below V.heap.size V w') := fun V => by
        have := compare_any fz f1 V
        rw [a2, hcx] at this
        exact this
   have CY : Hid (∀ V, Calls Try.prog 45 #[.agg #[I fz.n, I fz.d], .agg #[I fw.n, I fw.d]] V fun e w' => e = .returned (.tuple #[I cy.1, I 0]) ∧ Below V.heap.size V w') := fun V => by
        have := compare_any fz fw V
        rw [d2, hcy] at this
        exact this
   rw [hcx] at a1
   rw [hcy] at d1
   have HCX : Hid (decide (cx.1 < 0) = false ∧ decide (0 < cy.1) = false) := ⟨decide_eq_false (by omega), decide_eq_false (by omega)⟩
   have HK2 := Lib.hid hk2
   clear hk1 hk2 a1 a2 d1 d2 hcx hcy
   have t0 : W8.cell? ⟨PZ, 4, none⟩ = some (I fz.n) := (cell_of_row _ _ 4 _ _ _ (S8.out.nth 1 rfl)).trans rfl
   have t1 : W8.cell? ⟨PZ, 5, none⟩ = some (I fz.d) := (cell_of_row _ _ 5 _ _ _ (S8.out.nth 1 rfl)).trans rfl
   have t2 : W8.cell? ⟨PB, 0, none⟩ = some (I f1.n) := (cell_of_row _ _ 0 _ _ _ (S8.out.nth 3 rfl)).trans rfl
   have t3 : W8.cell? ⟨PB, 1, none⟩ = some (I f1.d) := (cell_of_row _ _ 1 _ _ _ (S8.out.nth 3 rfl)).trans rfl
   go_wp2_with fail
   refine (CX.out _).mono ?_
   rintro e w9 ⟨rfl, hb⟩
   have S9 := Lib.hid (S8.out.below hb)
   clear hb S8 CX t0 t1 t2 t3
   go_upto_region 30 with fail
   have t0 : w9.cell? ⟨PZ, 4, none⟩ = some (I fz.n) := (cell_of_row _ _ 4 _ _ _ (S9.out.nth 1 rfl)).trans rfl
   have t1 : w9.cell? ⟨PZ, 5, none⟩ = some (I fz.d) := (cell_of_row _ _ 5 _ _ _ (S9.out.nth 1 rfl)).trans rfl
   have t2 : w9.cell? ⟨QB, 0, none⟩ = some (I fw.n) := (cell_of_row _ _ 0 _ _ _ (S9.out.nth 2 rfl)).trans rfl
   have t3 : w9.cell? ⟨QB, 1, none⟩ = some (I fw.d) := (cell_of_row _ _ 1 _ _ _ (S9.out.nth 2 rfl)).trans rfl
   go_wp2_with fail
   refine (CY.out _).mono ?_
   rintro e w10 ⟨rfl, hb⟩
   have S10 := Lib.hid (S9.out.below hb)
   clear hb S9 CY t0 t1 t2 t3
   have d1 := HCX.out.1
   have d2 := HCX.out.2
   go_upto_region 33 with fail
   clear d1 d2
   have HFW : Hid (fw = (ff9 x true).1) := HFE.out.2
   obtain ⟨hE, hN, hN25, hLe⟩ := wn22 HO.out
   obtain ⟨hE2, hX2⟩ := wnAll HO.out
   rw [← HFE.out.2] at hLe hX2
   obtain ⟨l2, hl2⟩ : ∃ l, wnX x 2 2 = l := ⟨_, rfl⟩
   rw [hl2] at hN hN25 hLe
   have CW2 : Hid (∀ V A2 c2, (x.s.length ≤ c2 ∧ c2 ≤ maxLen) → Rd V V.heap.size 2 A2 x.s.length (rR x.s) → Calls Try.prog 36 #[.agg (shA x A2 c2), I 2, I 2] V (RetWn V l2 0)) := fun V A2 c2 h r => by
        have := windows_any x 2 2 A2 c2 V V.heap.size h (Nat.le_refl _) r
        rw [hl2, hE] at this
        exact this
   have CWA : Hid (∀ V A2 c2, (x.s.length ≤ c2 ∧ c2 ≤ maxLen) → Rd V V.heap.size 2 A2 x.s.length (rR x.s) → Calls Try.prog 36 #[.agg (shA x A2 c2), I x.w, I x.h] V (RetWn V [fw] 0)) := fun V A2 c2 h r => by
        have := windows_any x x.w x.h A2 c2 V V.heap.size h (Nat.le_refl _) r
        rw [hX2, hE2] at this
        exact this
   have HN := Lib.hid hN
   have HN25 := Lib.hid hN25
   have HLE := Lib.hid hLe
   clear hE hN hN25 hLe hE2 hX2 hl2
   have CO := Lib.hid (ownSheet_any x A n w10 w.heap.size (by have := HC.out; omega) S10.out.1.size (HRD.out _ S10.out.1).1)
   go_wp2_with (with_reducible show wpList _ _ _ _ _ _; refine wpList_load_row9 rfl 37 _ rfl w.heap.size rfl (shA x A n) _ _ _ (S10.out.nth 4 rfl) Try.underlying37 rfl (by kernel_rfl) ?_)
   refine CO.out.mono ?_
   rintro e w11 ⟨AO, cO, rfl, h1, hr, hb⟩
   have S11 := Lib.hid (S10.out.below hb)
   have CW3 := Lib.hid (CW2.out w11 AO cO h1 hr)
   clear hb h1 hr S10 CO CW2
   go_wp2_with fail
   refine CW3.out.mono ?_
   rintro e w12 ⟨v2, rfl, hown, hb⟩
   obtain ⟨LA, lc, rfl, _, _, hlr⟩ := Rd.of_own_max hown
   have S12 := Lib.hid (S11.out.below hb)
   have HLR := Lib.hid hlr
   clear hb hown hlr S11 CW3
   have b0 : w12.cell? ⟨w.heap.size, 0, none⟩ = some (I x.w) := (cell_of_row _ _ 0 _ _ _ (S12.out.nth 4 rfl)).trans rfl
   have b1 : w12.cell? ⟨w.heap.size, 1, none⟩ = some (I x.h) := (cell_of_row _ _ 1 _ _ _ (S12.out.nth 4 rfl)).trans rfl
   have hdm := okSh_iff.1 HO.out
   have k1 : IntKind.i64.wrap (x.w - 1) = x.w - 1 := IntWalk.i64_in _ (by omega)
   have k2 : IntKind.i64.wrap (x.h - 1) = x.h - 1 := IntWalk.i64_in _ (by omega)
   have k3 : IntKind.i64.wrap ((x.w - 1) * (x.h - 1)) = (l2.length : Int) := by
        rw [← HN.out]
        exact IntWalk.i64_in _ (by have := HN25.out; omega)
   have k4 : ((l2.length : Int) != (l2.length : Int)) = false := bne_self_eq_false _
   clear hdm
   go_upto_region 36 with fail
   clear k1 k2 k3 k4 b0 b1
   go_wp2_with fail
   go_loopw [21, 22, 23] (fun kv nv ev wr => ∃ k : Nat, k ≤ l2.length ∧ kv = .int .i64 k ∧ Below w12.heap.size w12 wr) (fun kv _ _ _ => l2.length - (intOf kv).toNat)
   case atStart => exact ⟨0, Nat.zero_le _, rfl, Below.refl _ _⟩
   case round =>
        obtain ⟨k, hk, rfl, hb⟩ := hrel
        rename World => X2
        have HBK := Lib.hid hb
        have SK2 := Lib.hid (S12.out.below hb)
        clear hb
        by_cases hlt : k < l2.length
        case pos =>
         have HLT := Lib.hid hlt
         have ki : decide ((k : Int) < (l2.length : Int)) = true := decide_eq_true (by omega)
         have kin : k < l2.length := hlt
         have k25 : k ≤ 25 := by have := HN25.out; omega
         obtain ⟨lb, lo, hLA, _, e0, e1⟩ := rd_frc (HLR.out.below HBK.out) hlt
         obtain ⟨hle, hfk⟩ := HLE.out k hlt
         obtain ⟨fk, hfe⟩ : ∃ f, fr0 l2 k = f := ⟨_, rfl⟩
         rw [hfe] at e0 e1 hle hfk
         obtain ⟨d2, d1⟩ := co_le hfk HK2.out hle
         obtain ⟨cz, hcz⟩ : ∃ c, coF fk fw = c := ⟨_, rfl⟩
         have CK : Hid (∀ V, Calls Try.prog 45 #[.agg #[I fk.n, I fk.d], .agg #[I fw.n, I fw.d]] V fun e w' => e = .returned (.tuple #[I cz.1, I 0]) ∧ Below V.heap.size V w') := fun V => by
          have := compare_any fk fw V
          rw [d2, hcz] at this
          exact this
         rw [hcz] at d1
         have HCZ : Hid (decide (0 < cz.1) = false) := decide_eq_false (by omega)
         have g5 : ∀ u, (ovr X2 u).cell? ⟨QB, 0, none⟩ = some (I fw.n) := cell_row9 (SK2.out.nth 2 rfl) (j := 0) rfl
         have g6 : ∀ u, (ovr X2 u).cell? ⟨QB, 1, none⟩ = some (I fw.d) := cell_row9 (SK2.out.nth 2 rfl) (j := 1) rfl
         subst hLA
         clear hle hfk hfe d1 d2 hcz hk
         go_upto_region 39 with fail
         have v0 := ovr_cell e0
         have v1 := ovr_cell e1
         clear e0 e1
         refine Dm.wp_region_late 10 [9] (fun j => if j = 6 then some (fun u _ => u = .tuple #[I cz.1, I 0]) else none) (by kernel_rfl) (by kernel_rfl) (by kernel_rfl) (by kernel_rfl) [] (E := 24) ⟨by kernel_rfl, alloc_rng9, fun j hj => by cases hj⟩ (by kernel_rfl) (fun i hi => by simp only [List.mem_cons, List.not_mem_nil, or_false] at hi; rcases hi with rfl; rfl) (fun c a d v w h => by cases d <;> exact h) (by kernel_rfl) ?_
         simp only [List.take_succ_cons, List.take_zero, List.drop_succ_cons, List.drop_zero]
         repeat (first | (refine Dk.wpG_one rfl rfl rfl ?_; intro K hK; go_big_quiet_op; go_big_quiet_on) | (refine Dk.wpG_skip rfl ?_; simp only [Act.put, List.setIfInBounds_toArray, List.set_cons_zero, List.set_cons_succ]))
         refine Dk.wpG_make (fun u _ => u = .tuple #[I cz.1, I 0]) rfl rfl (fun w' hw' hk => ?_) (fun u hu => ?_)
         · go_simp
           exact call_grow (CK.out w')
         obtain ⟨_, _, rfl⟩ := hu
         simp only [Act.put, List.setIfInBounds_toArray, List.set_cons_zero, List.set_cons_succ]
         repeat (first | (refine Dk.wpG_one rfl rfl rfl ?_; intro K hK; go_big_quiet_op; go_big_quiet_on) | (refine Dk.wpG_skip rfl ?_; simp only [Act.put, List.setIfInBounds_toArray, List.set_cons_zero, List.set_cons_succ]))
         refine Dk.wpG_nil (fun w5 hw5 hG => ?_)
         have HB9 := Lib.hid (HBK.out.trans (hw5.le.mono HBK.out.size))
         clear hG hw5 v0 v1 g5 g6 CK SK2 HBK
         refine Dl.wpTailH_cons (wp_assign _ (I cz.1) rfl rfl ⟨trivial, ?_⟩)
         refine Dl.wpTailH_cons (wp_assign _ (I 0) rfl rfl ⟨trivial, ?_⟩)
         refine Dl.wpTailH_nil ?_
         simp only [Act.put, List.setIfInBounds_toArray, List.set_cons_zero, List.set_cons_succ]
         have d1 := HCZ.out
         go_wp2_with fail
         go_roundw
         case rel => exact ⟨k + 1, HLT.out, by go_num, HB9.out⟩
         case measure => have := HLT.out; simp [intOf]; omega
        obtain rfl : k = l2.length := by omega
        have ki : decide ((l2.length : Int) < (l2.length : Int)) = false := decide_eq_false (by omega)
        clear hk hlt HBK S12 HLR
        go_upto_region 42 with fail
        clear ki
        have g0 : ∀ u, (ovr X2 u).cell? ⟨w.heap.size, 0, none⟩ = some (I x.w) := cell_row9 (SK2.out.nth 4 rfl) (j := 0) rfl
        have g1 : ∀ u, (ovr X2 u).cell? ⟨w.heap.size, 1, none⟩ = some (I x.h) := cell_row9 (SK2.out.nth 4 rfl) (j := 1) rfl
        have g2 : ∀ u, (ovr X2 u).cell? ⟨w.heap.size, 2, none⟩ = some (I x.c.lo) := cell_row9 (SK2.out.nth 4 rfl) (j := 2) rfl
        have g3 : ∀ u, (ovr X2 u).cell? ⟨w.heap.size, 3, none⟩ = some (I x.c.hi) := cell_row9 (SK2.out.nth 4 rfl) (j := 3) rfl
        have g4 : ∀ u, (ovr X2 u).cell? ⟨w.heap.size, 4, none⟩ = some (.slice A x.s.length n) := cell_row9 (SK2.out.nth 4 rfl) (j := 4) rfl
        have CO : Hid (∀ z, Calls Try.prog 22 #[.agg (shA x A n)] (ovr X2 z) (RetOs (ovr X2 z) x)) := fun z => ownSheet_any x A n _ w.heap.size (by have := HC.out; omega) (SK2.out.below (ovr_below X2 z)).1.size (HRD.out _ (SK2.out.below (ovr_below X2 z)).1).1
        refine Dm.wp_region_late 10 [9] (fun j => if j = 1 then some (ShAt x) else if j = 6 then some (WnAt [fw] 0) else none) (by kernel_rfl) (by kernel_rfl) (by kernel_rfl) (by kernel_rfl) [] (E := 24) ⟨by kernel_rfl, alloc_rng9, fun j hj => by cases hj⟩ (by kernel_rfl) (fun i hi => by simp only [List.mem_cons, List.not_mem_nil, or_false] at hi; rcases hi with rfl; rfl) (fun c a d v w h => by cases d <;> exact h) (by kernel_rfl) ?_
        simp only [List.take_succ_cons, List.take_zero, List.drop_succ_cons, List.drop_zero]
        repeat (first | (refine Dk.wpG_one rfl rfl rfl ?_; intro K hK; go_big_quiet_op; go_big_quiet_on) | (refine Dk.wpG_skip rfl ?_; simp only [Act.put, List.setIfInBounds_toArray, List.set_cons_zero, List.set_cons_succ]))
        refine Dk.wpG_make (ShAt x) rfl rfl (fun w' hw' hk => ?_) (fun u hu => ?_)
        · obtain ⟨z, rfl⟩ := hw'
          go_simp
          exact os_grow (CO.out z)
        obtain ⟨_, _, A9, c9, rfl, _, _⟩ := hu
        simp only [Act.put, List.setIfInBounds_toArray, List.set_cons_zero, List.set_cons_succ]
        repeat (first | (refine Dk.wpG_one rfl rfl rfl ?_; intro K hK; go_big_quiet_op; go_big_quiet_on) | (refine Dk.wpG_skip rfl ?_; simp only [Act.put, List.setIfInBounds_toArray, List.set_cons_zero, List.set_cons_succ]))
        refine Dk.wpG_make (WnAt [fw] 0) rfl rfl (fun w' hw' hk => ?_) (fun u hu => ?_)
        · have q1 := (hk ⟨1, .data⟩ (by simp) rfl _ _ _ rfl rfl rfl (by simp) rfl).now.at
          go_simp
          exact wn_grow (CWA.out w' A9 c9 q1.1 q1.2)
        obtain ⟨_, _, LA2, lc2, rfl, _⟩ := hu
        simp only [Act.put, List.setIfInBounds_toArray, List.set_cons_zero, List.set_cons_succ]
        repeat (first | (refine Dk.wpG_one rfl rfl rfl ?_; intro K hK; go_big_quiet_op; go_big_quiet_on) | (refine Dk.wpG_skip rfl ?_; simp only [Act.put, List.setIfInBounds_toArray, List.set_cons_zero, List.set_cons_succ]))
        refine Dk.wpG_nil (fun w5 hw5 hG => ?_)
        have hwn := hG.2.now.at
        have S13 := Lib.hid (SK2.out.below hw5.le)
        clear hG hw5 g0 g1 g2 g3 g4 CO SK2 CWA
        refine Dl.wpTailH_cons (wp_assign _ (.slice LA2 [fw].length lc2) rfl rfl ⟨trivial, ?_⟩)
        refine Dl.wpTailH_cons (wp_assign _ (I 0) rfl rfl ⟨trivial, ?_⟩)
        refine Dl.wpTailH_nil ?_
        simp only [Act.put, List.setIfInBounds_toArray, List.set_cons_zero, List.set_cons_succ]
        obtain ⟨ab, ao, rfl, _, e0, e1⟩ := rd_frc hwn (k := 0) (by simp)
        change w5.cell? _ = some (I fw.n) at e0
        change w5.cell? _ = some (I fw.d) at e1
        have v0 := ovr_cell e0
        have v1 := ovr_cell e1
        rw [Nat.zero_mul, Nat.add_zero] at v0 v1
        have g5 : ∀ u, (ovr w5 u).cell? ⟨QB, 0, none⟩ = some (I fw.n) := cell_row9 (S13.out.nth 2 rfl) (j := 0) rfl
        have g6 : ∀ u, (ovr w5 u).cell? ⟨QB, 1, none⟩ = some (I fw.d) := cell_row9 (S13.out.nth 2 rfl) (j := 1) rfl
        clear e0 e1 hwn
        go_upto_region 43 with fail
        refine Gg.wp_region_make (fun j => if j = 16 then some (fun u _ => u = .bool true) else none) (by kernel_rfl) (by kernel_rfl) (by kernel_rfl) ?_
        repeat (first | (refine Gg.wpG_one rfl rfl rfl ?_; intro K hK; go_big_quiet_op; go_big_quiet_on) | (refine Gg.wpG_skip rfl ?_; simp only [Act.put, List.setIfInBounds_toArray, List.set_cons_zero, List.set_cons_succ]))
        refine Gg.wpG_make (fun u _ => u = .bool true) rfl rfl (fun w' hw' hk => ?_) (fun u hu => ?_)
        · go_simp
          exact call_grow (KN.out w')
        obtain ⟨_, _, rfl⟩ := hu
        simp only [Act.put, List.setIfInBounds_toArray, List.set_cons_zero, List.set_cons_succ]
        repeat (first | (refine Gg.wpG_one rfl rfl rfl ?_; intro K hK; go_big_quiet_op; go_big_quiet_on) | (refine Gg.wpG_skip rfl ?_; simp only [Act.put, List.setIfInBounds_toArray, List.set_cons_zero, List.set_cons_succ]))
        refine Gg.wpG_nil (fun w5 hw5 hG => ?_)
        have S14 := Lib.hid (S13.out.below hw5.le)
        clear hG hw5 v0 v1 g5 g6
        go_wp2_with fail
        go_ret
        exact ⟨rfl, S14.out.1⟩
end Go.Proofs.Ytljjpidigckheaa.Un
