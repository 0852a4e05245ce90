/- known() of chapter 9: its walk. -/
import Derived.Test.YtljjpidigckheaaNac
import Derived.Test.YtljjpidigckheaaKe
namespace Go.Proofs.Ytljjpidigckheaa.Un
open Go.RowKit
theorem StL.nil (w : World) : StL w [] w := ⟨Below.refl _ _, fun x hx => by cases hx⟩
theorem StL.put {w V : World} {L : List (Nat × Array Value × TypeId)} (h : StL w L V) (cs cs' : Array Value) (t : TypeId) : StL w ((V.heap.size, cs', t) :: L) ((V.alloc (.cells cs t)).setRow V.heap.size cs') :=
 StL.cons ⟨below_setRow (h.1.trans (nc_new.mono h.1.size)) h.1.size _, fun x hx => (setRow_other (Nat.ne_of_lt (lt_of_row (h.2 x hx)))).trans ((nc_new.block _ (lt_of_row (h.2 x hx))).trans (h.2 x hx))⟩ (setRow_same (heap_last _ _ _ rfl))
theorem put_bel (w : World) (cs cs' : Array Value) (t : TypeId) : Below w.heap.size w ((w.alloc (.cells cs t)).setRow w.heap.size cs') := below_setRow nc_new (Nat.le_refl _) _
theorem TwoV.below {V : Value} {w w' : World} (h : TwoV V w) (hb : Below w.heap.size w w') : TwoV V w' := by
 obtain ⟨b, o, c, e, h1, h2⟩ := h
 exact ⟨b, o, c, e, by rw [ovr_of hb]; exact ovr_cell h1 _, by rw [ovr_of hb]; exact ovr_cell h2 _⟩
theorem ReV.below {V : Value} {w w' : World} (h : ReV V w) (hb : Below w.heap.size w w') : ReV V w' := by
 obtain ⟨b, o, c, e, h1, h2⟩ := h
 exact ⟨b, o, c, e, by rw [ovr_of hb]; exact ovr_cell h1 _, by rw [ovr_of hb]; exact ovr_cell h2 _⟩
theorem StL.put2 {w V : World} {L : List (Nat × Array Value × TypeId)} (h : StL w L V) (cs1 cs1' cs2 cs2' : Array Value) (t1 t2 : TypeId) : StL w ((V.heap.size + 1, cs2', t2) :: (V.heap.size, cs1', t1) :: L) ((((V.alloc (.cells cs1 t1)).alloc (.cells cs2 t2)).setRow V.heap.size cs1').setRow (V.heap.size + 1) cs2') := by
 have hb : Below V.heap.size V ((V.alloc (.cells cs1 t1)).alloc (.cells cs2 t2)) := nc_new.trans (nc_new.mono (by simp))
 have h1 : ((V.alloc (.cells cs1 t1)).alloc (.cells cs2 t2)).heap[V.heap.size]? = some (.cells cs1 t1 (0, 0)) := RowV.below (w := V.alloc (.cells cs1 t1)) (heap_last _ _ _ rfl) nc_new
 have h2 : ((V.alloc (.cells cs1 t1)).alloc (.cells cs2 t2)).heap[V.heap.size + 1]? = some (.cells cs2 t2 (0, 0)) := heap_last _ _ _ (by simp)
 refine StL.cons (StL.cons ⟨below_setRow (below_setRow (h.1.trans (hb.mono h.1.size)) h.1.size _) (Nat.le_succ_of_le h.1.size) _, fun x hx => ?_⟩ ((setRow_other (by omega)).trans (setRow_same h1))) (setRow_same ((setRow_other (by omega)).trans h2))
 have hl := lt_of_row (h.2 x hx)
 exact (setRow_other (by omega)).trans ((setRow_other (by omega)).trans ((hb.block _ hl).trans (h.2 x hx)))
abbrev L1 (b1 : Nat) : List (Nat × Array Value × TypeId) := [(b1, #[I 998, I 1002], 24)]
set_option maxRecDepth 100000 in
set_option maxHeartbeats 8000000 in
theorem known_any (w : World) : Calls Try.prog 16 #[] w fun e w' => e = .returned (.bool true) ∧ Below w.heap.size w w' := by
 have c0 := Lib.hid kn_pair
 have c1 := Lib.hid kn_trace
 have c2 := Lib.hid kn_small
 have c3 := Lib.hid kn_thick
 have c4 := Lib.hid kn_vary
 have c5 := Lib.hid kn_remove
 have c6 := Lib.hid kn_best
 have c7 := Lib.hid kn_flat
 have c8 := Lib.hid kn_proves
 have c9 := Lib.hid kn_windows
 have c10 := Lib.hid kn_apart
 have S0 := Lib.hid (StL.nil w)
 go_enter Try.func16, Try.ntmps16
 go_wp2_with fail
 refine (c0.out _).mono ?_
 rintro e w1 ⟨P, rfl, hP, hb⟩
 have S1 := Lib.hid (S0.out.below hb)
 have HP := Lib.hid hP
 clear hP hb
 go_wp2_with fail
 refine (c1.out _ P HP.out).mono ?_
 rintro e w2 ⟨V, rfl, hV, hb⟩
 have S2 := Lib.hid (S1.out.below hb)
 have HV := Lib.hid hV
 clear hV hb HP
 go_wp2_with (with_reducible show wpList _ _ _ _ _ _; refine wpList_store_row rfl 24 _ _ rfl w2.heap.size rfl _ _ (heap_last _ _ _ rfl) #[I 998, I 1002] rfl (one2 rfl rfl) rfl (by kernel_rfl) ?_)
 refine (c2.out _).mono ?_
 rintro e w3 ⟨P, rfl, hP, hb⟩
 have S3 := Lib.hid ((S2.out.put _ _ _).below hb)
 have HV3 := Lib.hid ((HV.out.below (put_bel _ _ _ _)).below hb)
 have HP := Lib.hid hP
 clear hP hb S2 HV
 go_wp2_with fail
 refine (c3.out _ P HP.out).mono ?_
 rintro e w4 ⟨rfl, hb⟩
 have S4 := Lib.hid (S3.out.below hb)
 have HV4 := Lib.hid (HV3.out.below hb)
 clear hb HP S3 HV3
 go_wp2_with (with_reducible show wpList _ _ _ _ _ _; refine wpList_store_row rfl 24 _ _ rfl w4.heap.size rfl _ _ (heap_last _ _ _ rfl) #[I 700, I 713] rfl (one2 rfl rfl) rfl (by kernel_rfl) ?_)
 refine (c2.out _).mono ?_
 rintro e w5 ⟨P5, rfl, hP, hb⟩
 have S5 := Lib.hid ((S4.out.put _ _ _).below hb)
 have HV5 := Lib.hid ((HV4.out.below (put_bel _ _ _ _)).below hb)
 have HP := Lib.hid hP
 clear hP hb S4 HV4
 go_wp2_with fail
 refine (c4.out _ P5 HP.out).mono ?_
 rintro e w6 ⟨rfl, hb⟩
 have S6 := Lib.hid (S5.out.below hb)
 have HV6 := Lib.hid (HV5.out.below hb)
 clear hb HP S5 HV5
 go_wp2_with (with_reducible show wpList _ _ _ _ _ _; refine wpList_store_row rfl 24 _ _ rfl w6.heap.size rfl _ _ (heap_last _ _ _ rfl) #[I 3, I 3] rfl (one2 rfl rfl) rfl (by kernel_rfl) ?_)
 refine (c2.out _).mono ?_
 rintro e w7 ⟨P7, rfl, hP, hb⟩
 have S7 := Lib.hid ((S6.out.put _ _ _).below hb)
 have HV7 := Lib.hid ((HV6.out.below (put_bel _ _ _ _)).below hb)
 have HP := Lib.hid hP
 clear hP hb S6 HV6
 go_wp2_with fail
 refine (c5.out _ _ rfl P7 HP.out).mono ?_
 rintro e w8 ⟨P8, rfl, hR, hb⟩
 have S8 := Lib.hid (S7.out.below hb)
 have HV8 := Lib.hid (HV7.out.below hb)
 have HR := Lib.hid hR
 clear hb HP S7 HV7 hR
 obtain ⟨rb, ro, rc', rfl, hr1, hr2⟩ := HR.out
 go_upto_region 5 with (with_reducible show wpList _ _ _ _ _ _; refine wpList_store_row rfl 37 _ _ rfl w8.heap.size rfl _ _ (heap_last _ _ _ rfl) #[I 2, I 2, I 675, I 690, .slice (some ⟨rb, ro, none⟩) 4 rc'] rfl (by simp [Value.oneCell']) rfl (by kernel_rfl) ?_)
 have S9 := Lib.hid (S8.out.put #[I 0, I 0, I 0, I 0, .slice none 0 0] #[I 2, I 2, I 675, I 690, .slice (some ⟨rb, ro, none⟩) 4 rc'] 37)
 have HV9 := Lib.hid (HV8.out.below (put_bel w8 #[I 0, I 0, I 0, I 0, .slice none 0 0] #[I 2, I 2, I 675, I 690, .slice (some ⟨rb, ro, none⟩) 4 rc'] 37))
 have HR9 := Lib.hid (HR.out.below (put_bel w8 #[I 0, I 0, I 0, I 0, .slice none 0 0] #[I 2, I 2, I 675, I 690, .slice (some ⟨rb, ro, none⟩) 4 rc'] 37))
 clear hr1 hr2 HR HV8 S8
 refine name_w fun X hX => ?_
 rw [← hX] at S9 HV9 HR9
 obtain ⟨b1, hb1⟩ : ∃ x, x = w2.heap.size := ⟨_, rfl⟩
 obtain ⟨b2, hb2⟩ : ∃ x, x = w4.heap.size := ⟨_, rfl⟩
 obtain ⟨b3, hb3⟩ : ∃ x, x = w6.heap.size := ⟨_, rfl⟩
 obtain ⟨b4, hb4⟩ : ∃ x, x = w8.heap.size := ⟨_, rfl⟩
 rw [← hb1, ← hb2, ← hb3, ← hb4] at S9 ⊢
 clear hX hb1 hb2 hb3 hb4
 obtain ⟨vb, vo, vc, rfl, hv1, hv2⟩ := HV9.out
 obtain ⟨rb', ro', rc2, hre, hr1, hr2⟩ := HR9.out
 obtain ⟨rfl, rfl, rfl⟩ : rb' = rb ∧ ro' = ro ∧ rc2 = rc' := by simp at hre; simp [hre]
 clear hre
 have k1 := S9.out.2 _ (.tail _ (.tail _ (.tail _ (.head _))))
 have k2 := S9.out.2 _ (.tail _ (.tail _ (.head _)))
 have k3 := S9.out.2 _ (.tail _ (.head _))
 have k4 := S9.out.2 _ (.head _)
 have a1 : X.cell? ⟨b1, 0, none⟩ = some (I 998) := (cell_of_row _ _ _ _ _ _ k1).trans rfl
 have a2 : X.cell? ⟨b1, 1, none⟩ = some (I 1002) := (cell_of_row _ _ _ _ _ _ k1).trans rfl
 have a3 : X.cell? ⟨b2, 0, none⟩ = some (I 700) := (cell_of_row _ _ _ _ _ _ k2).trans rfl
 have a4 : X.cell? ⟨b2, 1, none⟩ = some (I 713) := (cell_of_row _ _ _ _ _ _ k2).trans rfl
 have a5 : X.cell? ⟨b3, 0, none⟩ = some (I 3) := (cell_of_row _ _ _ _ _ _ k3).trans rfl
 have a6 : X.cell? ⟨b3, 1, none⟩ = some (I 3) := (cell_of_row _ _ _ _ _ _ k3).trans rfl
 have a7 : X.cell? ⟨b4, 2, none⟩ = some (I 675) := (cell_of_row _ _ _ _ _ _ k4).trans rfl
 have a8 : X.cell? ⟨b4, 3, none⟩ = some (I 690) := (cell_of_row _ _ _ _ _ _ k4).trans rfl
 have a9 : X.cell? ⟨b4, 4, none⟩ = some (.slice (some ⟨rb', ro', none⟩) 4 rc2) := (cell_of_row _ _ _ _ _ _ k4).trans rfl
 clear k1 k2 k3 k4
 go_wp2_with fail
 clear a1 a2 a3 a4 a5 a6 a7 a8 a9 hv1 hv2 hr1 hr2
 have S10 : Hid (StL w [] X) := Lib.hid S9.out.tail.tail.tail.tail
 clear S9 HV9 HR9
 refine (c6.out _ _ rfl).mono ?_
 rintro e w10 ⟨p1, p2, p3, p4, rfl, hb⟩
 have S11 := Lib.hid (S10.out.below hb)
 clear S10 hb
 go_wp2_with (with_reducible show wpList _ _ _ _ _ _; refine wpList_store_row rfl 51 _ _ rfl w10.heap.size rfl _ _ (heap_last _ _ _ rfl) #[I p1, I p2, I p3, I p4, I 1, I 1] rfl (by simp [Value.oneCell']) rfl (by kernel_rfl) ?_)
 refine (c2.out _).mono ?_
 rintro e w11 ⟨P11, rfl, hP, hb⟩
 have S12 := Lib.hid ((S11.out.put _ _ _).below hb)
 have HP := Lib.hid hP
 clear hP hb S11
 go_wp2_with fail
 refine (c7.out _ P11 HP.out).mono ?_
 rintro e w12 ⟨y1, n1, m1, z1, i1, j1, y2, n2, m2, z2, i2, j2, rfl, hb⟩
 have S13 := Lib.hid (S12.out.below hb)
 clear hb HP S12
 have h1 : Hid (((w12.alloc (.cells #[I 0, I 0, .slice none 0 0, .slice none 0 0] 60)).alloc (.cells #[I 0, I 0, .slice none 0 0, .slice none 0 0] 60)).heap[w12.heap.size]? = some (.cells #[I 0, I 0, .slice none 0 0, .slice none 0 0] 60 (0, 0))) := Lib.hid (RowV.below (w := w12.alloc (.cells #[I 0, I 0, .slice none 0 0, .slice none 0 0] 60)) (heap_last _ _ _ rfl) nc_new)
 have h2 : Hid ((((w12.alloc (.cells #[I 0, I 0, .slice none 0 0, .slice none 0 0] 60)).alloc (.cells #[I 0, I 0, .slice none 0 0, .slice none 0 0] 60)).setRow w12.heap.size #[I 3, I 4, .slice y1 n1 m1, .slice z1 i1 j1]).heap[w12.heap.size + 1]? = some (.cells #[I 0, I 0, .slice none 0 0, .slice none 0 0] 60 (0, 0))) := Lib.hid ((setRow_other (by omega)).trans (heap_last _ _ _ (by simp)))
 go_wp2_with (first | (with_reducible show wpList _ _ _ _ _ _; refine wpList_store_row rfl 60 _ _ rfl w12.heap.size rfl _ _ h1.out #[I 3, I 4, .slice y1 n1 m1, .slice z1 i1 j1] rfl (by simp [Value.oneCell']) rfl (by kernel_rfl) ?_) | with_reducible show wpList _ _ _ _ _ _; refine wpList_store_row rfl 60 _ _ rfl (w12.heap.size + 1) rfl _ _ h2.out #[I 1, I 1, .slice y2 n2 m2, .slice z2 i2 j2] rfl (by simp [Value.oneCell']) rfl (by kernel_rfl) ?_)
 refine (c2.out _).mono ?_
 rintro e w13 ⟨P13, rfl, hP, hb⟩
 have S14 := Lib.hid ((S13.out.put2 _ _ _ _ _ _).below hb)
 have HP := Lib.hid hP
 clear hP hb S13 h1 h2
 go_wp2_with fail
 refine (c8.out _ _ _ rfl rfl P13 HP.out).mono ?_
 rintro e w14 ⟨rfl, hb⟩
 have S15 := Lib.hid (S14.out.below hb)
 clear hb HP S14
 go_wp2_with fail
 refine (c2.out _).mono ?_
 rintro e w15 ⟨P15, rfl, hP, hb⟩
 have S16 := Lib.hid (S15.out.below hb)
 have HP := Lib.hid hP
 clear hP hb S15
 go_wp2_with fail
 refine (c9.out _ P15 HP.out).mono ?_
 rintro e w16 ⟨V16, rfl, hV, hb⟩
 have S17 := Lib.hid (S16.out.below hb)
 have HV := Lib.hid hV
 clear hb HP S16 hV
 go_wp2_with fail
 refine (c10.out _ _ _ _ rfl rfl rfl).mono ?_
 rintro e w17 ⟨rfl, hb⟩
 have S18 := Lib.hid (S17.out.below hb)
 have HV2 := Lib.hid (HV.out.below hb)
 clear hb S17 HV
 go_upto_region 14 with (with_reducible show wpList _ _ _ _ _ _; refine wpList_store_row rfl 24 _ _ rfl w17.heap.size rfl _ _ (heap_last _ _ _ rfl) #[I 4, I 6] rfl (one2 rfl rfl) rfl (by kernel_rfl) ?_)
 have S19 := Lib.hid (S18.out.put #[I 0, I 0] #[I 4, I 6] 24)
 have HV3 := Lib.hid (HV2.out.below (put_bel w17 #[I 0, I 0] #[I 4, I 6] 24))
 clear HV2 S18
 refine name_w fun Y hY => ?_
 rw [← hY] at S19 HV3
 obtain ⟨b5, hb5⟩ : ∃ x, x = w10.heap.size := ⟨_, rfl⟩
 obtain ⟨b6, hb6⟩ : ∃ x, x = w12.heap.size := ⟨_, rfl⟩
 obtain ⟨b7, hb7⟩ : ∃ x, x = w12.heap.size + 1 := ⟨_, rfl⟩
 obtain ⟨b8, hb8⟩ : ∃ x, x = w17.heap.size := ⟨_, rfl⟩
 rw [← hb7, ← hb5, ← hb6, ← hb8] at S19 ⊢
 clear hY hb5 hb6 hb7 hb8
 obtain ⟨ub, uc, rfl, hu1, hu2⟩ := HV3.out
 have a7 : Y.cell? ⟨b5, 4, none⟩ = some (I 1) := (cell_of_row _ _ _ _ _ _ (S19.out.2 _ (.tail _ (.tail _ (.tail _ (.head _)))))).trans rfl
 have a8 : Y.cell? ⟨b5, 5, none⟩ = some (I 1) := (cell_of_row _ _ _ _ _ _ (S19.out.2 _ (.tail _ (.tail _ (.tail _ (.head _)))))).trans rfl
 have v1 := ovr_cell hu1
 have v2 := ovr_cell hu2
 have v3 := ovr_cell a7
 have v4 := ovr_cell a8
 refine Gg.wp_region_make (fun _ => none) (by kernel_rfl) (by kernel_rfl) (by kernel_rfl) ?_
 repeat (first | (refine Gg.wpG_one rfl rfl rfl ?_; intro K hK; go_big_quiet_op; go_big_quiet_on) | (refine Gg.wpG_skip rfl ?_; simp only [Act.put, List.setIfInBounds_toArray, List.set_cons_zero, List.set_cons_succ]))
 refine Gg.wpG_nil (fun w5 hw5 hG => ?_)
 have S20 := Lib.hid (S19.out.below hw5.le)
 clear hG hw5 v1 v2 v3 v4 hu1 hu2 a7 a8 HV3 S19
 have k1 := S20.out.2 _ (.head _)
 have k2 := S20.out.2 _ (.tail _ (.head _))
 have k3 := S20.out.2 _ (.tail _ (.tail _ (.head _)))
 have a1 : w5.cell? ⟨b8, 0, none⟩ = some (I 4) := (cell_of_row _ _ _ _ _ _ k1).trans rfl
 have a2 : w5.cell? ⟨b8, 1, none⟩ = some (I 6) := (cell_of_row _ _ _ _ _ _ k1).trans rfl
 have a3 : w5.cell? ⟨b7, 0, none⟩ = some (I 1) := (cell_of_row _ _ _ _ _ _ k2).trans rfl
 have a4 : w5.cell? ⟨b7, 1, none⟩ = some (I 1) := (cell_of_row _ _ _ _ _ _ k2).trans rfl
 have a5 : w5.cell? ⟨b6, 0, none⟩ = some (I 3) := (cell_of_row _ _ _ _ _ _ k3).trans rfl
 have a6 : w5.cell? ⟨b6, 1, none⟩ = some (I 4) := (cell_of_row _ _ _ _ _ _ k3).trans rfl
 clear k1 k2 k3
 go_wp2_with fail
 go_ret
 exact ⟨rfl, S20.out.1⟩
end Go.Proofs.Ytljjpidigckheaa.Un
