/- What the law TopBaked needs of melt: copies of steps, what is told in one form. -/
import Derived.Test.YtnkaoplgmglijaaDoorXe4
namespace Go.Proofs.YtnkaoplgmglijaaDoor
open Go.RowKit
theorem chv_le {m : Mlt} {l : List Stp} (hv : Vld m l) {k s : Nat} {d : Int} (hk : k < l.length) (hs : s < 3) (hd : 0 ≤ d ∧ d ≤ 300000000000000) : (chF (at0 l k) s d (msK m l k)).1 ≤ (chF (at0 l k) s d (msK m l k)).2 := by
 by_cases hkd : (at0 l k).kd = 2 ∨ (at0 l k).kd = 3
 · rw [ch_add hkd]; exact (isS_by (hv.isS hk) hs).2.1
 · exact ((hv.takes hk hs hkd).le _ hd.1 (by omega)).2.1
def xcs (m : Mlt) (l : List Stp) (a : Int) (mo : Bool) : List (Nat → Int) := (List.range l.length).map fun k j => xeV m l a mo j k
theorem xcs_len (m : Mlt) (l : List Stp) (a : Int) (mo : Bool) : (xcs m l a mo).length = l.length := by simp [xcs]
theorem xcs_at {m : Mlt} {l : List Stp} {a : Int} {mo : Bool} {k : Nat} (hk : k < l.length) (j : Nat) : at0 (xcs m l a mo) k j = xeV m l a mo j k := by
 unfold xcs
 rw [at0_get (by simpa using hk)]
 simp
theorem xeS_bd {m : Mlt} {l : List Stp} (hv : Vld m l) (mo : Bool) {s : Nat} (hs : s < 3) : m.ct (s * 2) ≤ xeS m mo s ∧ xeS m mo s ≤ m.ct (s * 2 + 1) ∧ 0 ≤ xeS m mo s ∧ xeS m mo s ≤ 1000000000000 := by
 have := hv.ct hs
 unfold xeS stF
 split <;> omega
theorem xe_go {m : Mlt} {l : List Stp} {a : Int} {mo : Bool} {s : Nat} (hv : Vld m l) (hs : s < 3) : ∀ k, k ≤ l.length → okK m l (xeS m mo s) (xcs m l a mo) s k = true ∧ wkG m (tdG (xcs m l a mo) s) s (xeS m mo s) l k = wkG m (xgF (crsX mo) l a mo) s (xeS m mo s) l k
 | 0, _ => by
   have h := xeS_bd hv mo hs
   refine ⟨?_, rfl⟩
   show wiB (xeS m mo s) (m.ct (s * 2)) (m.ct (s * 2 + 1)) = true
   unfold wiB
   rw [Bool.and_eq_true, decide_eq_true_eq, decide_eq_true_eq]
   omega
 | k + 1, hk => by
   have ih := xe_go (a := a) (mo := mo) hv hs k (by omega)
   have hb := wkG_bd (m := m) (g := xgF (crsX mo) l a mo) (l := l) (xgF_mild _ _ _ _) hs (xeS_bd hv mo hs).2.2 k fun j hj => hv.he j (by omega)
   have hn := hv.hn
   have hle := chv_le hv (show k < l.length by omega) hs (d := wkG m (xgF (crsX mo) l a mo) s (xeS m mo s) l k) (by omega)
   have hv' : at0 (xcs m l a mo) k s = xgF (crsX mo) l a mo k (chF (at0 l k) s (wkG m (xgF (crsX mo) l a mo) s (xeS m mo s) l k) (msK m l k)).1 (chF (at0 l k) s (wkG m (xgF (crsX mo) l a mo) s (xeS m mo s) l k) (msK m l k)).2 := xcs_at (by omega) s
   have hor : ∀ lo hi : Int, lo ≤ hi → lo ≤ xgF (crsX mo) l a mo k lo hi ∧ xgF (crsX mo) l a mo k lo hi ≤ hi := fun lo hi h => by
     unfold xgF pkF
     split
     · split <;> omega
     · split <;> split <;> omega
   have h2 := hor _ _ hle
   refine ⟨?_, ?_⟩
   · show (okK m l (xeS m mo s) (xcs m l a mo) s k && wiB (at0 (xcs m l a mo) k s) _ _) = true
     rw [ih.1, ih.2, hv', Bool.true_and]
     unfold wiB
     rw [Bool.and_eq_true, decide_eq_true_eq, decide_eq_true_eq]
     exact h2
   · rw [wkG, wkG, ih.2]
     have e : tdG (xcs m l a mo) s k (chF (at0 l k) s (wkG m (xgF (crsX mo) l a mo) s (xeS m mo s) l k) (msK m l k)).1 (chF (at0 l k) s (wkG m (xgF (crsX mo) l a mo) s (xeS m mo s) l k) (msK m l k)).2 = xgF (crsX mo) l a mo k (chF (at0 l k) s (wkG m (xgF (crsX mo) l a mo) s (xeS m mo s) l k) (msK m l k)).1 (chF (at0 l k) s (wkG m (xgF (crsX mo) l a mo) s (xeS m mo s) l k) (msK m l k)).2 := by
       unfold tdG
       rw [hv']
       generalize xgF (crsX mo) l a mo k (chF (at0 l k) s (wkG m (xgF (crsX mo) l a mo) s (xeS m mo s) l k) (msK m l k)).1 (chF (at0 l k) s (wkG m (xgF (crsX mo) l a mo) s (xeS m mo s) l k) (msK m l k)).2 = g at *
       omega
     rw [e]
theorem xe_wk {m : Mlt} {l : List Stp} {k0 : Nat} {mo : Bool} {s : Nat} : ∀ k, k ≤ k0 → wkG m (xgF (crsX mo) l (k0 : Int) mo) s (xeS m mo s) l k = wkD m (crsX mo) s (xeS m mo s) l k
 | 0, _ => rfl
 | k + 1, hk => by
   rw [wkG, wkD, xe_wk k (by omega)]
   have e : ∀ lo hi, xgF (crsX mo) l (k0 : Int) mo k lo hi = pkF (crsX mo) (at0 l k).kd lo hi := fun lo hi => by
     unfold xgF
     rw [if_neg (by omega)]
   rw [e]
theorem at_ex {l : List Stp} {sl : Int} : ∀ n, 0 ≤ atK l sl n → ∃ k, k < n ∧ atK l sl n = k ∧ (at0 l k).kd = 1 ∧ (fzK l k : Int) = sl
 | 0, h => by
   have e : atK l sl 0 = -1 := rfl
   omega
 | n + 1, h => by
   rw [atK] at h ⊢
   split at h
   · rename_i h1
     rw [if_pos h1]
     exact ⟨n, by omega, rfl, h1.1, h1.2⟩
   · rename_i h1
     rw [if_neg h1]
     obtain ⟨k, h2, h3⟩ := at_ex n h
     exact ⟨k, by omega, h3⟩
theorem at_some {l : List Stp} {sl : Int} {k : Nat} (h1 : (at0 l k).kd = 1) (h2 : (fzK l k : Int) = sl) : ∀ n, k < n → 0 ≤ atK l sl n
 | 0, h => by omega
 | n + 1, h => by
   rw [atK]
   split
   · omega
   · rename_i h3
     by_cases hk : k = n
     · subst hk
       exact absurd ⟨h1, h2⟩ h3
     · exact at_some h1 h2 n (by omega)
theorem at_none {l : List Stp} {sl : Int} : atK l sl l.length < 0 ↔ ¬ (0 ≤ sl ∧ sl < (fzK l l.length : Int)) := by
 constructor
 · rintro h ⟨h1, h2⟩
   obtain ⟨k, hk, hk1, hk2⟩ := fz_ex (l := l) l.length sl.toNat (by omega)
   have := at_some hk1 (show (fzK l k : Int) = sl by omega) _ hk
   omega
 · intro h
   rcases Int.lt_or_le (atK l sl l.length) 0 with h1 | h1
   · exact h1
   · obtain ⟨k, hk, _, hk1, hk2⟩ := at_ex _ h1
     have := fz_lt hk hk1
     exact (h ⟨by omega, by omega⟩).elim
theorem xe_no {m : Mlt} {l : List Stp} {sl s : Int} (h0 : ckF m l = 0) (h : ¬ (0 ≤ sl ∧ sl < (fzK l l.length : Int) ∧ 0 ≤ s ∧ s ≤ 2)) : xeE m l sl s = 7 := by
 unfold xeE
 rw [if_neg (by omega)]
 by_cases hs : spB s = true
 · have h2 : 0 ≤ s ∧ s ≤ 2 := by unfold spB at hs; simpa using hs
   rw [if_pos (.inl ((at_none (l := l) (sl := sl)).2 (fun h3 => h ⟨h3.1, h3.2, h2.1, h2.2⟩)))]
 · rw [if_pos (.inr (by simpa using hs))]
structure Rchd (m : Mlt) (l : List Stp) (sl s : Nat) (mo : Bool) : Prop where
 e : xeE m l sl s = 0
 f : flE m l (xeS m mo) (xcs m l (atK l sl l.length) mo) = 0
 v : at0 (fzL l (xcs m l (atK l sl l.length) mo) l.length) sl s = prS m l sl (1 + s * 2 + if mo then 1 else 0)
theorem rchd {m : Mlt} {l : List Stp} {sl s : Nat} (mo : Bool) (h0 : ckF m l = 0) (hsl : sl < fzK l l.length) (hs : s < 3) : Rchd m l sl s mo := by
 have hv := vld_of h0
 have ha : 0 ≤ atK l (sl : Int) l.length := by
  rcases Int.lt_or_le (atK l (sl : Int) l.length) 0 with h1 | h1
  · exact (at_none.1 h1 ⟨by omega, by omega⟩).elim
  · exact h1
 obtain ⟨k0, hk, hak, hk1, hk2⟩ := at_ex _ ha
 have hsp : spB (s : Int) = true := by unfold spB; simp; omega
 refine ⟨?_, ?_, ?_⟩
 · unfold xeE
   rw [if_neg (by omega), if_neg (by rw [hsp]; simp; omega)]
 · unfold flE
   rw [if_neg (by omega), if_neg (by rw [xcs_len]; omega), if_pos]
   rw [(xe_go hv (show 0 < 3 by omega) _ (Nat.le_refl _)).1, (xe_go hv (show 1 < 3 by omega) _ (Nat.le_refl _)).1, (xe_go hv (show 2 < 3 by omega) _ (Nat.le_refl _)).1]
   rfl
 · have hfz : fzK l k0 = sl := by omega
   rw [hak, ← hfz, fzL_at _ _ hk hk1, xcs_at hk]
   have hp := prS_at (m := m) hs hk hk1
   unfold xeV
   rw [xe_wk k0 (Nat.le_refl _)]
   unfold xgF
   rw [if_pos rfl]
   rcases mo with _ | _
   · exact hp.1.symm
   · exact hp.2.symm
theorem extreme_uni (m : Mlt) (A : Option Addr) (c : Nat) (l : List Stp) (sl s : Int) (mo : Bool) (w : World) (hG : Glob w) (hx : Rd w w.heap.size 8 A l.length (rT l)) (hk : ∀ j, j < l.length → 0 ≤ (at0 l j).kd ∧ (at0 l j).kd ≤ 255) (hn : l.length ≤ maxLen) (hsl : -9223372036854775808 ≤ sl ∧ sl ≤ 9223372036854775807) :
 Calls Tryd.prog 12 #[.agg (mltArr m), .slice A l.length c, I sl, I s, .bool mo] w fun e w' => ∃ (S : Option Addr) (n d : Nat) (E : Nat → Int), e = .returned (.tuple #[.agg (cnArr E), .slice S n d, I (xeE m l sl s)]) ∧ n ≤ d ∧ d ≤ maxLen ∧ (xeE m l sl s ≠ 0 → S = none ∧ n = 0 ∧ d = 0 ∧ E = fun _ => 0) ∧ (xeE m l sl s = 0 → n = l.length ∧ E = xeS m mo) ∧ ClIn w.heap.size w' S n (rN3 (xcs m l (atK l sl l.length) mo)) ∧ Below w.heap.size w w' :=
 (extreme_any m A c l sl s mo w hG hx hk hn hsl).mono fun e w' ⟨hb, h⟩ => by
  rcases h with ⟨h0, rfl⟩ | ⟨h0, mb, rfl, h1, h2⟩
  · exact ⟨none, 0, 0, fun _ => 0, rfl, by omega, by unfold maxLen; omega, fun _ => ⟨rfl, rfl, rfl, rfl⟩, fun h => absurd h h0, fun h => absurd h (by omega), hb⟩
  · refine ⟨_, _, _, _, by rw [h0], Nat.le_refl _, hn, fun h => absurd h0 h, fun _ => ⟨rfl, rfl⟩, fun _ => ⟨mb, _, rfl, h1, h2, fun k j hk' hj => ?_⟩, hb⟩
    rw [mdA_at (by omega)]
    have e1 : (k * 3 + j) % 3 = j := by omega
    have e2 : (k * 3 + j) / 3 = k := by omega
    unfold rN3
    rw [xcs_at hk', e1, e2, if_pos (.inl hj)]
end Go.Proofs.YtnkaoplgmglijaaDoor
namespace Go.Proofs.YtnkaoplgmglijaaDoor
open Go.RowKit
attribute [local go_sem] Oper.semAt_some
theorem stp_infoB : (Tryd.prog.info? 33).map (fun i => (i.zero, i.size, i.bytes)) = some (some (.agg #[.int .u8 0, I 0, I 0, I 0, I 0, I 0, I 0, I 0]), 8, 64) := by kernel_rfl
theorem stepsOf_any (A : Option Addr) (n c : Nat) (g : Nat → Nat → Value) (w : World) (B : Nat) (hn : n ≤ 1000) (hB : B ≤ w.heap.size) (hx : Rd w B 8 A n g) : Calls Tryd.prog 11 #[.slice A n c] w (RetLc w 8 n g) := by
 obtain ⟨i0, hi0, iz0, iz1, iz2⟩ := info_parts stp_infoB
 have HX := Lib.hid hx
 have HB := Lib.hid hB
 have HN := Lib.hid hn
 clear hx hB hn
 go_enter Tryd.func11, Tryd.ntmps11
 go_wp2_with (at_builtin; go_loud (refine wpList_app_lit rfl _ _ 28 rfl 33 i0 _ 8 64 Tryd.underlying28 hi0 iz0 iz1 iz2 rfl (by decide) _ rfl A n c rfl g ?hr ?hn (by decide) ?_))
 case hr => exact (HX.out.alloc HB.out _).more (by have := HB.out; simp; omega)
 case hn => have := HN.out; omega
 intro A' c' w' h1 h2 h3 h4
 have H4 : Hid (Below w.heap.size w w') := ((Below.refl _ _).alloc (Nat.le_refl _) _).trans (h4.mono (by omega))
 clear h4
 go_wp2_with fail
 go_ret
 exact ⟨A', c', rfl, h1, h2, h3, H4.out⟩
def OlF (sz n : Nat) (g : Nat → Nat → Value) (u : Value) (w : World) : Prop := ∃ A c, u = .slice A n c ∧ n ≤ c ∧ c ≤ maxLen ∧ Rd w w.heap.size sz A n g
theorem olF_grow {P : Program} {f : FuncId} {args : Array Value} {w : World} {sz n : Nat} {g : Nat → Nat → Value} (h : Calls P f args w (RetLc w sz n g)) : Calls P f args w fun e w' => ∃ u, e = .returned u ∧ Le w w' ∧ Box (OlF sz n g) u w' :=
 h.mono fun _ _ ⟨A, c, he, h1, h2, h3, h4⟩ => ⟨_, he, h4, fun _ hl => ⟨A, c, rfl, h1, h2, (h3.below hl).more (Below.size hl)⟩⟩
theorem follow_uni (m : Mlt) (A : Option Addr) (c : Nat) (l : List Stp) (st : Nat → Int) (Ch : Option Addr) (cc : Nat) (cs : List (Nat → Int)) (w : World) (hG : Glob w) (hx : Rd w w.heap.size 8 A l.length (rT l)) (hk : ∀ j, j < l.length → 0 ≤ (at0 l j).kd ∧ (at0 l j).kd ≤ 255) (hn : l.length ≤ maxLen) (hc : Rd w w.heap.size 3 Ch cs.length (rN3 cs)) (hcn : cs.length ≤ maxLen) :
 Calls Tryd.prog 13 #[.agg (mltArr m), .slice A l.length c, .agg (cnArr st), .slice Ch cs.length cc] w fun e w' => ∃ (S : Option Addr) (n d : Nat) (E : Nat → Int), e = .returned (.tuple #[.slice S n d, .agg (cnArr E), I (flE m l st cs)]) ∧ n ≤ d ∧ d ≤ maxLen ∧ (flE m l st cs ≠ 0 → S = none ∧ n = 0 ∧ d = 0 ∧ E = fun _ => 0) ∧ (flE m l st cs = 0 → n = fzK l l.length ∧ E = fun s => wkG m (tdG cs s) s (st s) l l.length) ∧ ClIn w.heap.size w' S n (rN3 (fzL l cs l.length)) ∧ Below w.heap.size w w' :=
 (follow_any m A c l st Ch cc cs w hG hx hk hn hc hcn).mono fun e w' ⟨hb, h⟩ => by
  rcases h with ⟨h0, rfl⟩ | ⟨h0, S, d, rfl, h2, h3, h4⟩
  · exact ⟨none, 0, 0, fun _ => 0, rfl, by omega, by unfold maxLen; omega, fun _ => ⟨rfl, rfl, rfl, rfl⟩, fun h => absurd h h0, fun h => absurd h (by omega), hb⟩
  · exact ⟨S, _, d, _, by rw [h0], h2, h3, fun h => absurd h0 h, fun _ => ⟨rfl, rfl⟩, h4, hb⟩
def StB (w : World) (L : List (Nat × Array Value × TypeId)) (V : World) : Prop := Below w.heap.size w V ∧ ∀ x, x ∈ L → V.heap[x.1]? = some (.cells x.2.1 x.2.2 (0, 0))
theorem lt_rowB {V : World} {b : Nat} {o : Obj} (h : V.heap[b]? = some o) : b < V.heap.size := (Array.getElem?_eq_some_iff.1 h).1
theorem StB.below {w V U : World} {L : List (Nat × Array Value × TypeId)} (h : StB w L V) (hb : Below V.heap.size V U) : StB w L U := ⟨h.1.trans (hb.mono h.1.size), fun x hx => (hb.block _ (lt_rowB (h.2 x hx))).trans (h.2 x hx)⟩
theorem StB.cons {w V : World} {L : List (Nat × Array Value × TypeId)} {b : Nat} {cs : Array Value} {t : TypeId} (h : StB w L V) (hr : V.heap[b]? = some (.cells cs t (0, 0))) : StB w ((b, cs, t) :: L) V := ⟨h.1, fun x hx => by
 rcases List.mem_cons.1 hx with rfl | hx
 · exact hr
 · exact h.2 x hx⟩
theorem StB.nth {w V : World} {L : List (Nat × Array Value × TypeId)} {b : Nat} {cs : Array Value} {t : TypeId} (h : StB w L V) (i : Nat) (hi : L[i]? = some (b, cs, t)) : V.heap[b]? = some (.cells cs t (0, 0)) := h.2 _ (List.mem_of_getElem? hi)
abbrev bkArr (HA : Option Addr) (n c : Nat) (cn sl : Int) (mo : Bool) : Array Value := #[.slice HA n c, .int .u8 cn, .int .u8 sl, .bool mo]
end Go.Proofs.YtnkaoplgmglijaaDoor
