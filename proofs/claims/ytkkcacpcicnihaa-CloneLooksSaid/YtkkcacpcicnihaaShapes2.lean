import Derived.Test.YtkkcacpcicnihaaShapes
namespace Go.Proofs.Ytkkcacpcicnihaa
open Go.RowKit
open Go.Proofs.Cl

attribute [local go_sem] store_float lies_alloc lies_drew st_57_0 st_57_1
attribute [local go_sem ↓] load_57 store_57

/-- what a round's last test finds in memory -/
structure S22 (w wr : World) (n m b0 b1 : Nat) (P Q : List Value) (r s : List Nat) (p q : Pr) (c1 c2 : Nat) (w' : World) : Prop where
  t : W22 w n m b0 b1 P Q w'
  kp : w'.rangeAt wr.heap.size 0 (pCells p)
  kq : w'.rangeAt (wr.heap.size + 1) 0 (pCells q)
  d1 : w'.rangeAt c1 0 (dCells p.d)
  d2 : w'.rangeAt c2 0 (dCells q.d)
  lt : wr.heap.size + 1 < w'.heap.size ∧ c1 < w'.heap.size ∧ c2 < w'.heap.size
  m0 : IMap w' b0 r.length (idxMap r r.length)
  m1 : IMap w' b1 s.length (idxMap s s.length)
theorem S22.keep {w wr : World} {n m b0 b1 : Nat} {P Q : List Value} {r s : List Nat} {p q : Pr} {c1 c2 : Nat} {w' w'' : World} (h : S22 w wr n m b0 b1 P Q r s p q c1 c2 w') (hb : Below w'.heap.size w' w'') : S22 w wr n m b0 b1 P Q r s p q c1 c2 w'' := by
  obtain ⟨h1, h2, h3⟩ := h.lt
  have := hb.size
  exact ⟨h.t.keep hb, rangeAt_below h.kp hb (by omega), rangeAt_below h.kq hb h1, rangeAt_below h.d1 hb h2, rangeAt_below h.d2 hb h3, ⟨by omega, by omega, by omega⟩, IMap.below h.m0 hb, IMap.below h.m1 hb⟩

set_option maxRecDepth 100000 in
set_option maxHeartbeats 4000000 in
theorem shapes_yes (n m b0 b1 : Nat) (r s : List Nat) (c : Int) (v v' : V) (x : Bool) (A B : Option Addr) (l cp cq : Nat) (ps qs : List Pr) (w : World) (hm0 : IMap w b0 r.length (idxMap r r.length)) (hm1 : IMap w b1 s.length (idxMap s s.length)) (hn : n ≤ 200) (hm : m ≤ 200)
    (hr : Cl.Good n r) (hs : Cl.Good m s) (hps : ps.length = l) (hqs : qs.length = l) (hp : PropsAt w A ps) (hq : PropsAt w B qs) (lp : l * 192 ≤ 140737488351232) :
    Calls Try.prog 22 #[mAgg n m b0 b1, hAgg c v x A l cp, hAgg c v' x B l cq] w fun e w' => e = .returned (.bool (pSame n r m s v v' && propsSame n r m s ps qs)) ∧ Below w.heap.size w w' := by
  have M0 := Lib.hid hm0
  have M1 := Lib.hid hm1
  have HR := Lib.hid hr
  have HS := Lib.hid hs
  have HP := Lib.hid hp
  have HQ := Lib.hid hq
  clear hm0 hm1 hr hs hp hq
  have HC := Lib.hid (show ∀ b : Bool, b = pSame n r m s v v' → (b && propsSame n r m s ps qs) = (pSame n r m s v v' && propsSame n r m s ps qs) from fun b h => by rw [h])
  go_enter Try.func22, Try.ntmps22
  have T0 := W22.new w n m b0 b1 (hCells c v x A l cp) (hCells c v' x B l cq)
  have T0' := Lib.hid T0
  have x0 := T0.one 0 _ rfl
  have x1 := T0.one 1 _ rfl
  have x2 := T0.one 2 _ rfl
  have x3 := T0.one 3 _ rfl
  have x4 := T0.one 4 _ rfl
  have x5 := T0.one 5 _ rfl
  have x6 := T0.one 6 _ rfl
  have x7 := T0.one 7 _ rfl
  have y0 := T0.two 0 _ rfl
  have y1 := T0.two 1 _ rfl
  have y2 := T0.two 2 _ rfl
  have y3 := T0.two 3 _ rfl
  have y4 := T0.two 4 _ rfl
  have y5 := T0.two 5 _ rfl
  have y6 := T0.two 6 _ rfl
  have y7 := T0.two 7 _ rfl
  obtain ⟨m1, m2, m3, m4⟩ := T0.m
  clear T0
  simp only [Nat.zero_add] at x0 x1 x2 x3 x4 x5 x6 x7 y0 y1 y2 y3 y4 y5 y6 y7
  cases hps1 : pSame n r m s v v'
  · rw [hps1] at HC
    go_wp2_with (first | (go_at_call 21; refine (psame_any n m b0 b1 r s v v' _ (IMap.below M0.out T0'.out.below) (IMap.below M1.out T0'.out.below) hn hm HR.out HS.out).mono ?_; rintro e w2 ⟨rfl, hb2⟩; rw [hps1]; have T2 := Lib.hid (T0'.out.keep hb2); clear hb2 x0 x1 x2 x3 x4 x5 x6 x7 y0 y1 y2 y3 y4 y5 y6 y7 m1 m2 m3 m4; have x7 := T2.out.one 7 _ rfl; have y7 := T2.out.two 7 _ rfl; simp only [Nat.zero_add] at x7 y7))
    go_ret
    exact ⟨rfl, T2.out.below⟩
  · rw [hps1] at HC
    go_wp2_with (first | (go_at_call 21; refine (psame_any n m b0 b1 r s v v' _ (IMap.below M0.out T0'.out.below) (IMap.below M1.out T0'.out.below) hn hm HR.out HS.out).mono ?_; rintro e w2 ⟨rfl, hb2⟩; rw [hps1]; have T2 := Lib.hid (T0'.out.keep hb2); clear hb2 x0 x1 x2 x3 x4 x5 x6 x7 y0 y1 y2 y3 y4 y5 y6 y7 m1 m2 m3 m4; have x7 := T2.out.one 7 _ rfl; have y7 := T2.out.two 7 _ rfl; simp only [Nat.zero_add] at x7 y7))
    clear x7 y7
    go_loopw [45] (fun i wr => ∃ k : Nat, k ≤ l ∧ i = .int .i64 k ∧ W22 w n m b0 b1 (hCells c v x A l cp) (hCells c v' x B l cq) wr ∧ ∀ j, j < k → propSame n r m s (prAt ps j) (prAt qs j) = true)
      (fun i _ => l - (intOf i).toNat)
    case atStart => exact ⟨0, Nat.zero_le _, rfl, T2.out, fun j hj => absurd hj (by omega)⟩
    case round =>
      clear T2 T0' hps1
      obtain ⟨k, hk, rfl, hT, hall⟩ := hrel
      have HT := Lib.hid hT
      have HA := Lib.hid hall
      clear hT hall
      by_cases hlt : k < l
      · have y7 := HT.out.two 7 _ rfl
        simp only [Nat.zero_add] at y7
        have hsz : w.heap.size + 1 + 1 < wr.heap.size := by have := HT.out.size; omega
        have y7 := fun o => (World.cell?_alloc_past o _ _ hsz).trans y7
        obtain ⟨b2, off2, rfl, hbs2, hpa⟩ := HP.out k (by omega)
        obtain ⟨b3, off3, rfl, hbs3, hqa⟩ := HQ.out k (by omega)
        have HPA := Lib.hid (hpa.below HT.out.below hbs2)
        have HQA := Lib.hid (fun o => rangeAt_alloc (hqa.below HT.out.below hbs3) (by omega) o)
        have HE := Lib.hid (show propSame n r m s (prAt ps k) (prAt qs k) = propSame n r m s (ps[k]'(by omega)) (qs[k]'(by omega)) by rw [prAt_get ps k (by omega), prAt_get qs k (by omega)])
        clear hpa hqa
        generalize ps[k]'(by omega) = p at *
        generalize qs[k]'(by omega) = q at *
        obtain ⟨C, eC⟩ : ∃ C, C = (pCells p).toArray := ⟨_, rfl⟩
        obtain ⟨D, eD⟩ : ∃ D, D = (pCells q).toArray := ⟨_, rfl⟩
        have HPA : Hid (wr.rangeAt b2 (off2 + k * 20) C.toList) := Lib.hid (by rw [eC]; exact HPA.out)
        have HQA : Hid (∀ o, (wr.alloc o).rangeAt b3 (off3 + k * 20) D.toList) := Lib.hid (by rw [eD]; exact HQA.out)
        have HRC : Hid (IsRow 20 C) := Lib.hid (by rw [eC]; exact isRow_p p)
        have HRD : Hid (IsRow 20 D) := Lib.hid (by rw [eD]; exact isRow_p q)
        have EC := Lib.hid eC
        have ED := Lib.hid eD
        clear eC eD
        go_wp2_with (first
          | ((with_reducible show wpList _ _ _ (⟨some 49, .load _ _, _, _, _, _⟩ :: _) _ _); refine wpList_load_c rfl 59 (.tmp 48) rfl b2 (off2 + k * 20) rfl HRC.out HPA.out Try.row59 Try.size59 ?_)
          | ((with_reducible show wpList _ _ _ (⟨_, .store 59 (.tmp 8) _, _, _, _, _⟩ :: _) _ _); refine wpList_store_c rfl 59 (.tmp 8) (.tmp 49) rfl HRC.out 59 wr.heap.size rfl rfl rfl Try.size59 rfl ?_; go_frame)
          | ((with_reducible show wpList _ _ _ (⟨some 54, .load _ _, _, _, _, _⟩ :: _) _ _); refine wpList_load_c rfl 59 (.tmp 53) rfl b3 (off3 + k * 20) rfl HRD.out (HQA.out _) Try.row59 Try.size59 ?_)
          | ((with_reducible show wpList _ _ _ (⟨_, .store 59 (.tmp 9) _, _, _, _, _⟩ :: _) _ _); refine wpList_store_c rfl 59 (.tmp 9) (.tmp 54) rfl HRD.out 59 (wr.heap.size + 1) rfl (by simp) rfl Try.size59 rfl ?_; go_frame))
        have F1 : ((wr.alloc (.cells C 59)).alloc (.cells D 59)).rangeAt wr.heap.size 0 C.toList := rangeAt_alloc (rangeAt_new wr C 59 _ rfl) (by simp) _
        have F2 : ((wr.alloc (.cells C 59)).alloc (.cells D 59)).rangeAt (wr.heap.size + 1) 0 D.toList := rangeAt_new _ D 59 _ (by simp)
        have F3 : Below wr.heap.size wr ((wr.alloc (.cells C 59)).alloc (.cells D 59)) := ((Below.refl _ _).alloc (Nat.le_refl _) _).alloc (by simp) _
        have F4 : wr.heap.size + 1 < ((wr.alloc (.cells C 59)).alloc (.cells D 59)).heap.size := by simp
        generalize (wr.alloc (.cells C 59)).alloc (.cells D 59) = w4 at *
        rw [EC.out] at F1
        rw [ED.out] at F2
        have G1 := rangeAt_drop F1 2
        have G2 := rangeAt_drop F2 2
        simp only [Nat.zero_add] at G1 G2
        have F1 := Lib.hid F1
        have F2 := Lib.hid F2
        have F3 := Lib.hid F3
        have F4 := Lib.hid F4
        clear HPA HQA HRC HRD EC ED y7
        obtain ⟨D1, eD1⟩ : ∃ C, C = (dCells p.d).toArray := ⟨_, rfl⟩
        obtain ⟨D2, eD2⟩ : ∃ C, C = (dCells q.d).toArray := ⟨_, rfl⟩
        have R1 : IsRow 18 D1 := by rw [eD1]; exact isRow_d p.d
        have R2 : IsRow 18 D2 := by rw [eD2]; exact isRow_d q.d
        have T1 := ld_row Try.size57 Try.row57 (b := wr.heap.size) (off := 2) R1
        have T2 := ld_row Try.size57 Try.row57 (b := wr.heap.size + 1) (off := 2) R2
        have L1 : Lies w4 wr.heap.size 2 D1 := by unfold Lies; rw [eD1]; exact G1
        have L2 : Lies w4 (wr.heap.size + 1) 2 D2 := by unfold Lies; rw [eD2]; exact G2
        have n1 : wr.heap.size + 1 < w4.heap.size := F4.out
        have n2 : wr.heap.size < w4.heap.size := by omega
        have n3 : wr.heap.size < w4.heap.size + 1 := by omega
        have ED1 := Lib.hid eD1
        have ED2 := Lib.hid eD2
        clear G1 G2 eD1 eD2
        have HH : Hid (∀ w5 c1 c2, Two2 w4 w5 c1 c2 D1 D2 → S22 w wr n m b0 b1 (hCells c v x (some ⟨b2, off2, none⟩) l cp) (hCells c v' x (some ⟨b3, off3, none⟩) l cq) r s p q c1 c2 w5) := Lib.hid (by
          intro w5 c1 c2 h
          have hb := h.below
          have hl := h.hi1
          have hl2 := h.hi2
          have hs := h.size
          have hbb : Below wr.heap.size wr w5 := F3.out.trans (hb.mono (by have := F3.out.size; omega))
          have ht := HT.out.keep hbb
          refine ⟨ht, rangeAt_below F1.out hb (by omega), rangeAt_below F2.out hb (by omega), by rw [← show D1.toList = dCells p.d by rw [ED1.out]]; exact h.one, by rw [← show D2.toList = dCells q.d by rw [ED2.out]]; exact h.two, ⟨by omega, by omega, by omega⟩, IMap.below M0.out ht.below, IMap.below M1.out ht.below⟩)
        go_region
        · have HH := Lib.hid (HH.out _ _ _ (Two2.mk1 w4 D1 D2 57))
          generalize ((w4.alloc (.cells D1 57)).alloc (.cells D2 57)).drew = w5 at *
          clear T1 T2 L1 L2 n1 n2 n3 R1 R2 F1 F2 F3 F4
          obtain ⟨m1, m2, m3, m4⟩ := HH.out.t.m; have d0 := HH.out.d1 0 _ rfl; have d1 := HH.out.d1 1 _ rfl; have d2 := HH.out.d1 2 _ rfl; have d3 := HH.out.d1 3 _ rfl; have d4 := HH.out.d1 4 _ rfl; have d5 := HH.out.d1 5 _ rfl; have d6 := HH.out.d1 6 _ rfl; have d7 := HH.out.d1 7 _ rfl; have d8 := HH.out.d1 8 _ rfl; have d9 := HH.out.d1 9 _ rfl; have d10 := HH.out.d1 10 _ rfl; have d11 := HH.out.d1 11 _ rfl; have d12 := HH.out.d1 12 _ rfl; have d13 := HH.out.d1 13 _ rfl; have d14 := HH.out.d1 14 _ rfl; have d15 := HH.out.d1 15 _ rfl; have d16 := HH.out.d1 16 _ rfl; have d17 := HH.out.d1 17 _ rfl; have f0 := HH.out.d2 0 _ rfl; have f1 := HH.out.d2 1 _ rfl; have f2 := HH.out.d2 2 _ rfl; have f3 := HH.out.d2 3 _ rfl; have f4 := HH.out.d2 4 _ rfl; have f5 := HH.out.d2 5 _ rfl; have f6 := HH.out.d2 6 _ rfl; have f7 := HH.out.d2 7 _ rfl; have f8 := HH.out.d2 8 _ rfl; have f9 := HH.out.d2 9 _ rfl; have f10 := HH.out.d2 10 _ rfl; have f11 := HH.out.d2 11 _ rfl; have f12 := HH.out.d2 12 _ rfl; have f13 := HH.out.d2 13 _ rfl; have f14 := HH.out.d2 14 _ rfl; have f15 := HH.out.d2 15 _ rfl; have f16 := HH.out.d2 16 _ rfl; have f17 := HH.out.d2 17 _ rfl; simp only [Nat.zero_add] at d0 d1 d2 d3 d4 d5 d6 d7 d8 d9 d10 d11 d12 d13 d14 d15 d16 d17 f0 f1 f2 f3 f4 f5 f6 f7 f8 f9 f10 f11 f12 f13 f14 f15 f16 f17
          have k0 := HH.out.kp 0 _ rfl; have k1 := HH.out.kp 1 _ rfl; have g0 := HH.out.kq 0 _ rfl; have g1 := HH.out.kq 1 _ rfl; simp only [Nat.zero_add] at k0 k1 g0 g1
          go_wp2_with (first
            | (go_at_call 21; refine (psame_any n m b0 b1 r s _ _ _ HH.out.m0 HH.out.m1 hn hm HR.out HS.out).mono ?_; rintro e w6 ⟨rfl, hb6⟩; have HH := Lib.hid (HH.out.keep hb6); clear hb6; clear m1 m2 m3 m4 d0 f0 d1 f1 d2 f2 d3 f3 d4 f4 d5 f5 d6 f6 d7 f7 d8 f8 d9 f9 d10 f10 d11 f11 d12 f12 d13 f13 d14 f14 d15 f15 d16 f16 d17 f17; obtain ⟨m1, m2, m3, m4⟩ := HH.out.t.m; have d0 := HH.out.d1 0 _ rfl; have d1 := HH.out.d1 1 _ rfl; have d2 := HH.out.d1 2 _ rfl; have d3 := HH.out.d1 3 _ rfl; have d4 := HH.out.d1 4 _ rfl; have d5 := HH.out.d1 5 _ rfl; have d6 := HH.out.d1 6 _ rfl; have d7 := HH.out.d1 7 _ rfl; have d8 := HH.out.d1 8 _ rfl; have d9 := HH.out.d1 9 _ rfl; have d10 := HH.out.d1 10 _ rfl; have d11 := HH.out.d1 11 _ rfl; have d12 := HH.out.d1 12 _ rfl; have d13 := HH.out.d1 13 _ rfl; have d14 := HH.out.d1 14 _ rfl; have d15 := HH.out.d1 15 _ rfl; have d16 := HH.out.d1 16 _ rfl; have d17 := HH.out.d1 17 _ rfl; have f0 := HH.out.d2 0 _ rfl; have f1 := HH.out.d2 1 _ rfl; have f2 := HH.out.d2 2 _ rfl; have f3 := HH.out.d2 3 _ rfl; have f4 := HH.out.d2 4 _ rfl; have f5 := HH.out.d2 5 _ rfl; have f6 := HH.out.d2 6 _ rfl; have f7 := HH.out.d2 7 _ rfl; have f8 := HH.out.d2 8 _ rfl; have f9 := HH.out.d2 9 _ rfl; have f10 := HH.out.d2 10 _ rfl; have f11 := HH.out.d2 11 _ rfl; have f12 := HH.out.d2 12 _ rfl; have f13 := HH.out.d2 13 _ rfl; have f14 := HH.out.d2 14 _ rfl; have f15 := HH.out.d2 15 _ rfl; have f16 := HH.out.d2 16 _ rfl; have f17 := HH.out.d2 17 _ rfl; simp only [Nat.zero_add] at d0 d1 d2 d3 d4 d5 d6 d7 d8 d9 d10 d11 d12 d13 d14 d15 d16 d17 f0 f1 f2 f3 f4 f5 f6 f7 f8 f9 f10 f11 f12 f13 f14 f15 f16 f17))
          all_goals (try clear m1 m2 m3 m4); (try clear k0 k1 g0 g1); (try clear d0 f0 d1 f1 d2 f2 d3 f3 d4 f4 d5 f5 d6 f6 d7 f7 d8 f8 d9 f9 d10 f10 d11 f11 d12 f12 d13 f13 d14 f14 d15 f15 d16 f16 d17 f17)
          · (go_ret; refine ⟨ret_b ?_, HH.out.t.below⟩; (have hf : propSame n r m s p q = false := by (clear M0 M1 HR HS HP HQ HC HA HT HPA HQA HH; first | (simp [propSame, keySame, *]; done) | (simp_all [propSame, keySame]; done))); rw [propsSame_false (show k < ps.length by omega) (HE.out.trans hf)]; try rfl)
          · go_roundw
            case rel =>
              have hf : propSame n r m s p q = true := by (clear M0 M1 HR HS HP HQ HC HA HT HPA HQA HH; simp_all [propSame, keySame])
              refine ⟨k + 1, by omega, by go_num, HH.out.t, fun j hj => ?_⟩
              rcases Nat.lt_or_ge j k with hj' | hj'
              · exact HA.out j hj'
              · obtain rfl : j = k := by omega
                exact HE.out.trans hf
            case measure => simp [intOf]; omega
          all_goals (go_ret; refine ⟨ret_b ?_, HH.out.t.below⟩; (have hf : propSame n r m s p q = false := by (clear M0 M1 HR HS HP HQ HC HA HT HPA HQA HH; first | (simp [propSame, keySame, *]; done) | (simp_all [propSame, keySame]; done))); rw [propsSame_false (show k < ps.length by omega) (HE.out.trans hf)]; try rfl)
        · have HH := Lib.hid (HH.out _ _ _ (Two2.mk2 w4 D1 D2 57))
          generalize ((w4.alloc (.cells D2 57)).alloc (.cells D1 57)).drew = w5 at *
          clear T1 T2 L1 L2 n1 n2 n3 R1 R2 F1 F2 F3 F4
          obtain ⟨m1, m2, m3, m4⟩ := HH.out.t.m; have d0 := HH.out.d1 0 _ rfl; have d1 := HH.out.d1 1 _ rfl; have d2 := HH.out.d1 2 _ rfl; have d3 := HH.out.d1 3 _ rfl; have d4 := HH.out.d1 4 _ rfl; have d5 := HH.out.d1 5 _ rfl; have d6 := HH.out.d1 6 _ rfl; have d7 := HH.out.d1 7 _ rfl; have d8 := HH.out.d1 8 _ rfl; have d9 := HH.out.d1 9 _ rfl; have d10 := HH.out.d1 10 _ rfl; have d11 := HH.out.d1 11 _ rfl; have d12 := HH.out.d1 12 _ rfl; have d13 := HH.out.d1 13 _ rfl; have d14 := HH.out.d1 14 _ rfl; have d15 := HH.out.d1 15 _ rfl; have d16 := HH.out.d1 16 _ rfl; have d17 := HH.out.d1 17 _ rfl; have f0 := HH.out.d2 0 _ rfl; have f1 := HH.out.d2 1 _ rfl; have f2 := HH.out.d2 2 _ rfl; have f3 := HH.out.d2 3 _ rfl; have f4 := HH.out.d2 4 _ rfl; have f5 := HH.out.d2 5 _ rfl; have f6 := HH.out.d2 6 _ rfl; have f7 := HH.out.d2 7 _ rfl; have f8 := HH.out.d2 8 _ rfl; have f9 := HH.out.d2 9 _ rfl; have f10 := HH.out.d2 10 _ rfl; have f11 := HH.out.d2 11 _ rfl; have f12 := HH.out.d2 12 _ rfl; have f13 := HH.out.d2 13 _ rfl; have f14 := HH.out.d2 14 _ rfl; have f15 := HH.out.d2 15 _ rfl; have f16 := HH.out.d2 16 _ rfl; have f17 := HH.out.d2 17 _ rfl; simp only [Nat.zero_add] at d0 d1 d2 d3 d4 d5 d6 d7 d8 d9 d10 d11 d12 d13 d14 d15 d16 d17 f0 f1 f2 f3 f4 f5 f6 f7 f8 f9 f10 f11 f12 f13 f14 f15 f16 f17
          have k0 := HH.out.kp 0 _ rfl; have k1 := HH.out.kp 1 _ rfl; have g0 := HH.out.kq 0 _ rfl; have g1 := HH.out.kq 1 _ rfl; simp only [Nat.zero_add] at k0 k1 g0 g1
          go_wp2_with (first
            | (go_at_call 21; refine (psame_any n m b0 b1 r s _ _ _ HH.out.m0 HH.out.m1 hn hm HR.out HS.out).mono ?_; rintro e w6 ⟨rfl, hb6⟩; have HH := Lib.hid (HH.out.keep hb6); clear hb6; clear m1 m2 m3 m4 d0 f0 d1 f1 d2 f2 d3 f3 d4 f4 d5 f5 d6 f6 d7 f7 d8 f8 d9 f9 d10 f10 d11 f11 d12 f12 d13 f13 d14 f14 d15 f15 d16 f16 d17 f17; obtain ⟨m1, m2, m3, m4⟩ := HH.out.t.m; have d0 := HH.out.d1 0 _ rfl; have d1 := HH.out.d1 1 _ rfl; have d2 := HH.out.d1 2 _ rfl; have d3 := HH.out.d1 3 _ rfl; have d4 := HH.out.d1 4 _ rfl; have d5 := HH.out.d1 5 _ rfl; have d6 := HH.out.d1 6 _ rfl; have d7 := HH.out.d1 7 _ rfl; have d8 := HH.out.d1 8 _ rfl; have d9 := HH.out.d1 9 _ rfl; have d10 := HH.out.d1 10 _ rfl; have d11 := HH.out.d1 11 _ rfl; have d12 := HH.out.d1 12 _ rfl; have d13 := HH.out.d1 13 _ rfl; have d14 := HH.out.d1 14 _ rfl; have d15 := HH.out.d1 15 _ rfl; have d16 := HH.out.d1 16 _ rfl; have d17 := HH.out.d1 17 _ rfl; have f0 := HH.out.d2 0 _ rfl; have f1 := HH.out.d2 1 _ rfl; have f2 := HH.out.d2 2 _ rfl; have f3 := HH.out.d2 3 _ rfl; have f4 := HH.out.d2 4 _ rfl; have f5 := HH.out.d2 5 _ rfl; have f6 := HH.out.d2 6 _ rfl; have f7 := HH.out.d2 7 _ rfl; have f8 := HH.out.d2 8 _ rfl; have f9 := HH.out.d2 9 _ rfl; have f10 := HH.out.d2 10 _ rfl; have f11 := HH.out.d2 11 _ rfl; have f12 := HH.out.d2 12 _ rfl; have f13 := HH.out.d2 13 _ rfl; have f14 := HH.out.d2 14 _ rfl; have f15 := HH.out.d2 15 _ rfl; have f16 := HH.out.d2 16 _ rfl; have f17 := HH.out.d2 17 _ rfl; simp only [Nat.zero_add] at d0 d1 d2 d3 d4 d5 d6 d7 d8 d9 d10 d11 d12 d13 d14 d15 d16 d17 f0 f1 f2 f3 f4 f5 f6 f7 f8 f9 f10 f11 f12 f13 f14 f15 f16 f17))
          all_goals (try clear m1 m2 m3 m4); (try clear k0 k1 g0 g1); (try clear d0 f0 d1 f1 d2 f2 d3 f3 d4 f4 d5 f5 d6 f6 d7 f7 d8 f8 d9 f9 d10 f10 d11 f11 d12 f12 d13 f13 d14 f14 d15 f15 d16 f16 d17 f17)
          · (go_ret; refine ⟨ret_b ?_, HH.out.t.below⟩; (have hf : propSame n r m s p q = false := by (clear M0 M1 HR HS HP HQ HC HA HT HPA HQA HH; first | (simp [propSame, keySame, *]; done) | (simp_all [propSame, keySame]; done))); rw [propsSame_false (show k < ps.length by omega) (HE.out.trans hf)]; try rfl)
          · go_roundw
            case rel =>
              have hf : propSame n r m s p q = true := by (clear M0 M1 HR HS HP HQ HC HA HT HPA HQA HH; simp_all [propSame, keySame])
              refine ⟨k + 1, by omega, by go_num, HH.out.t, fun j hj => ?_⟩
              rcases Nat.lt_or_ge j k with hj' | hj'
              · exact HA.out j hj'
              · obtain rfl : j = k := by omega
                exact HE.out.trans hf
            case measure => simp [intOf]; omega
          all_goals (go_ret; refine ⟨ret_b ?_, HH.out.t.below⟩; (have hf : propSame n r m s p q = false := by (clear M0 M1 HR HS HP HQ HC HA HT HPA HQA HH; first | (simp [propSame, keySame, *]; done) | (simp_all [propSame, keySame]; done))); rw [propsSame_false (show k < ps.length by omega) (HE.out.trans hf)]; try rfl)
      · have hk' : k = l := by omega
        subst hk'
        go_wp2
        go_ret
        refine ⟨ret_b ?_, HT.out.below⟩
        rw [propsSame_true (fun j hj => HA.out j (by omega))]; rfl

end Go.Proofs.Ytkkcacpcicnihaa
