/- Lemmas for this claim, in parts: All. -/
import Derived.Test.YtoalboilghgalaaGreatDoorA35
import Derived.Test.YtoalboilghgalaaGreatDoorA36
import Derived.Deep.DeepCutAuto
/- all: are just the first properties fixed, the others as they were? -/
namespace Go.Proofs.YtoalboilghgalaaGreatDoor
open Go.RowKit
open Go.Proofs.Dc (V Ds Ky)
attribute [local go_sem] run_store_float

attribute [local go_sem] Oper.semAt_some
/-- a list of properties as it is told: where it lies if it is not empty -/
theorem PropsAt.open {W : World} {v : Value} {l : List (Ky × Ds)} (h : PropsAt W v l) : ∃ (p : Option Addr) (c g base : Nat), v = .slice p l.length c ∧ (0 < l.length → p = some ⟨g, 0, none⟩ ∧ RowAt W base 45 20 g l.length c (pAll l)) := by
  rcases h with ⟨rfl, rfl⟩ | ⟨base, g, c, h1, h2⟩
  · exact ⟨none, 0, 0, 0, rfl, fun h => by simp at h⟩
  · exact ⟨some ⟨g, 0, none⟩, c, g, base, h1, fun _ => ⟨rfl, h2⟩⟩
theorem range_pd {W : World} {b o : Nat} {p : Ky × Ds} (h : W.rangeAt b o (pCells p)) : W.rangeAt b (o + 2) [.int .i64 p.2.val.kind, .bool p.2.val.bool, .float .f64 p.2.val.num, .string p.2.val.str, .int .i64 p.2.val.id, .int .i64 p.2.get.kind, .bool p.2.get.bool, .float .f64 p.2.get.num, .string p.2.get.str, .int .i64 p.2.get.id, .int .i64 p.2.set.kind, .bool p.2.set.bool, .float .f64 p.2.set.num, .string p.2.set.str, .int .i64 p.2.set.id, .int .i64 p.2.w, .int .i64 p.2.e, .int .i64 p.2.c] := fun j v hv => by
  have hj := (List.getElem?_eq_some_iff.1 hv).1
  rw [Nat.add_assoc]
  exact h (2 + j) v (by rw [← hv, Nat.add_comm]; rfl)
theorem range_pky {W : World} {b o : Nat} {p : Ky × Ds} (h : W.rangeAt b o (pCells p)) : W.rangeAt b o [.string p.1.str, .int .i64 p.1.sym] := fun j v hv => by
  have hj : j < 2 := (List.getElem?_eq_some_iff.1 hv).1
  refine h j v ?_
  match j, hj with
  | 0, _ => exact hv
  | 1, _ => exact hv
theorem dArr_set (d : Ds) (x : Int) : (dArr d).setIfInBounds 17 (.int .i64 x) = dArr { d with c := x } := rfl
theorem dArr_setw (d : Ds) (x : Int) : (dArr d).setIfInBounds 15 (.int .i64 x) = dArr { d with w := x } := rfl
theorem zero41 : True := trivial
theorem Tryz.size41 : (Tryz.prog.info? 41).map (·.size) = some 1 := by kernel_rfl
section
variable {P : Program} {ops : Array Oper} {rest : List Oper} {o : Oper} {a : Act} {W : World} {Q : Exit → Act → World → Prop}
theorem wpList_store1 (hgd : o.guard = none) (ty : TypeId) (x y : Operand) (ho : o.op = .store ty x y)
    (b j : Nat) (C : Array Value) (t : TypeId) (v : Value) (hx : a.eval x = .pointer (some ⟨b, j, none⟩)) (hy : a.eval y = v) (hb : Blk W b C t) (hi : (P.info? ty).map (·.size) = some 1) (hj : j < C.size) (hC : v.cells = #[v])
    (h1 : v.oneCell' = true) (h : ∀ W', Blk W' b (C.setIfInBounds j v) t → Only [b] W W' → wpList P ops Q rest (a.put o.dst undef) W') : wpList P ops Q (o :: rest) a W :=
  wpList_plain hgd fun _ hK => store1_op ty x y ho b j C t v hx hy hb hi hj hC h1 fun W' hW ho' => hK _ _ (h W' hW ho')
end
theorem neq_kk (s : ByteArray) (i : Int) (w : World) : (binOp .neq 40 (.agg #[.string s, .int .i64 i]) (.agg #[.string s, .int .i64 i])).run Tryz.prog w = .ok (.bool false) w := by
  have h := eql_kk s i s i w
  rw [run_eql_struct] at h
  rw [run_neq_struct]
  revert h
  cases (Op.equalIn 10000 40 (.agg #[.string s, .int .i64 i]) (.agg #[.string s, .int .i64 i])).run Tryz.prog w with
  | ok b w' =>
    intro h
    simp only [Result.andThen, keq_refl, Result.ok.injEq, Value.bool.injEq] at h ⊢
    obtain ⟨rfl, rfl⟩ := h
    exact ⟨rfl, rfl⟩
  | _ => intro h; simp [Result.andThen] at h
attribute [local go_sem ↓] neq_kk
/-- what a round reads: the two shapes, and their rows -/
def Tw (bn bw gn gw basen basew len ncp wcp : Nat) (A B : List (Ky × Ds)) (W : World) : Prop :=
  (Blk W bn (sArr 0 vN false (.slice (some ⟨gn, 0, none⟩) len ncp)) 73 ∧ Blk W bw (sArr 0 vN false (.slice (some ⟨gw, 0, none⟩) len wcp)) 73) ∧ RowAt W basen 45 20 gn len ncp (pAll A) ∧ RowAt W basew 45 20 gw len wcp (pAll B)
section
variable {bn bw gn gw basen basew len ncp wcp : Nat} {A B : List (Ky × Ds)} {W W' : World}
theorem Tw.next (h : Tw bn bw gn gw basen basew len ncp wcp A B W) (hb : Below W.heap.size W W') : Tw bn bw gn gw basen basew len ncp wcp A B W' := ⟨⟨h.1.1.next hb, h.1.2.next hb⟩, h.2.1.next hb, h.2.2.next hb⟩
theorem Tw.free (h : Tw bn bw gn gw basen basew len ncp wcp A B W) {b : Nat} {C : Array Value} (hB : Blk W b C 43) (ho : Only [b] W W') : Tw bn bw gn gw basen basew len ncp wcp A B W' :=
  ⟨⟨h.1.1.only ho (by simpa using h.1.1.ne hB (by decide)), h.1.2.only ho (by simpa using h.1.2.ne hB (by decide))⟩, h.2.1.keep (fun C hC => hC.only ho (by simpa using hC.ne hB (by decide))), h.2.2.keep (fun C hC => hC.only ho (by simpa using hC.ne hB (by decide)))⟩
theorem Tw.n7 (h : Tw bn bw gn gw basen basew len ncp wcp A B W) : W.cell? ⟨bn, 7, none⟩ = some (.slice (some ⟨gn, 0, none⟩) len ncp) := h.1.1.cell 7
theorem Tw.w7 (h : Tw bn bw gn gw basen basew len ncp wcp A B W) : W.cell? ⟨bw, 7, none⟩ = some (.slice (some ⟨gw, 0, none⟩) len wcp) := h.1.2.cell 7
end
set_option maxRecDepth 100000 in
set_option maxHeartbeats 4000000 in
theorem all_any (w : World) (nv wv : Value) (A B : List (Ky × Ds)) (n : Nat) (fz : Bool) (hA : PropsAt w nv A) (hB : PropsAt w wv B) (hbg : Begun fz n A B) (hl : B.length < 1000000) :
    Calls Tryz.prog 36 #[.agg (sArr 0 vN false nv), .int .i64 n, .agg (sArr 0 vN false wv), .bool fz] w fun e w' => e = .returned (.bool true) ∧ Below w.heap.size w w' := by
  obtain ⟨np, ncp, gn, basen, rfl, hrn⟩ := hA.open
  obtain ⟨wp, wcp, gw, basew, rfl, hrw⟩ := hB.open
  obtain ⟨len, hlen⟩ : ∃ len, B.length = len := ⟨_, rfl⟩
  have hlenA : A.length = len := hbg.1.trans hlen
  rw [hlenA] at hrn ⊢
  rw [hlen] at hrw hl ⊢
  have HLN := Lib.hid (And.intro hlenA hlen)
  have HBG := Lib.hid hbg
  have HRN := Lib.hid hrn
  have HRW := Lib.hid hrw
  clear hlenA hlen hA hB hbg hrn hrw
  go_enter Tryz.func36, Tryz.ntmps36
  go_wp2_with (first | ((with_reducible show wpList _ _ _ (⟨some 4, .box 73 _, _, _, _, _⟩ :: _) _ _); refine wpList_box_blk rfl 73 _ rfl (sArr 0 vN false (.slice np len ncp)) rfl ?_; intro w1 hN hL1 hs1; clear hs1) | ((with_reducible show wpList _ _ _ (⟨some 6, .box 73 _, _, _, _, _⟩ :: _) _ _); refine wpList_box_blk rfl 73 _ rfl (sArr 0 vN false (.slice wp len wcp)) rfl ?_; intro w2 hWs hL2 hs2; clear hs2; replace hN := hN.next hL2; have hL := more hL1 hL2))
  have hLs := hL.size
  obtain ⟨bn, hbn⟩ : ∃ b, w.heap.size = b := ⟨_, rfl⟩
  obtain ⟨bw, hbw⟩ : ∃ b, w1.heap.size = b := ⟨_, rfl⟩
  have HLL := Lib.hid hL
  rw [hbn] at hN ⊢
  rw [hbw] at hWs ⊢
  clear hbn hbw hL1 hL2 hLs hL
  go_loopg [9] len (fun fu s9 wr => ∃ i : Nat, s9 = .int .i64 i ∧ i + fu = len ∧ Below w2.heap.size w2 wr)
  case atStart => exact ⟨0, rfl, by omega, Below.refl _ _⟩
  case round =>
    obtain ⟨i, rfl, hi, hbW⟩ := hrel
    by_cases hlt : i < len
    · obtain ⟨rfl, hrn⟩ := HRN.out (by omega)
      obtain ⟨rfl, hrw⟩ := HRW.out (by omega)
      have htw : Tw bn bw gn gw basen basew len ncp wcp A B wr := ⟨⟨hN.next hbW, hWs.next hbW⟩, (hrn.next HLL.out).next hbW, (hrw.next HLL.out).next hbW⟩
      obtain ⟨x, hx⟩ : ∃ x, A[i]? = some x := ⟨_, List.getElem?_eq_getElem (by rw [HLN.out.1]; exact hlt)⟩
      obtain ⟨y, hy⟩ : ∃ y, B[i]? = some y := ⟨_, List.getElem?_eq_getElem (by rw [HLN.out.2]; exact hlt)⟩
      have hxyb := HBG.out.2 i (by rw [HLN.out.1]; exact hlt) (by rw [HLN.out.2]; exact hlt)
      rw [show A[i]'(by rw [HLN.out.1]; exact hlt) = x from Option.some.inj ((List.getElem?_eq_getElem _).symm.trans hx), show B[i]'(by rw [HLN.out.2]; exact hlt) = y from Option.some.inj ((List.getElem?_eq_getElem _).symm.trans hy)] at hxyb
      have HXY := Lib.hid (And.intro hx hy)
      obtain ⟨kx, dx⟩ := x
      obtain ⟨ky, dy⟩ := y
      have hkk : kx = ky := hxyb.1
      subst hkk
      obtain ⟨x, hxe⟩ : ∃ x : Ky × Ds, x = (kx, dx) := ⟨_, rfl⟩
      obtain ⟨y, hye⟩ : ∃ y : Ky × Ds, y = (kx, dy) := ⟨_, rfl⟩
      have HKEY := Lib.hid (show x.1 = y.1 by rw [hxe, hye])
      have HDD : Hid (x.2 = if i < n then fixD fz y.2 else y.2) := Lib.hid (by rw [hxe, hye]; exact hxyb.2)
      rw [← hxe, ← hye] at HXY
      clear hxe hye hxyb hx hy
      obtain ⟨fu, rfl⟩ : ∃ fu, gk = fu + 1 := ⟨gk - 1, by omega⟩
      obtain ⟨i2, hi2⟩ : ∃ i2, i + 1 = i2 := ⟨_, rfl⟩
      have e1 : (i : Int) + 1 = (i2 : Int) := by omega
      have e2 := wrap_nat i2 (by omega)
      have e3 : (0 : Int) ≤ (i : Int) := by omega
      have e4 : (i : Int) < (len : Int) := by omega
      have HI3 := Lib.hid (show i2 + fu = len ∧ i + 1 = i2 by omega)
      have hn7 := htw.n7
      clear hi hi2 hrn hrw
      go_upto_region 4 with fail
      go_cut [10, 11] (fun s10 s11 wx => ∃ b10 b11, s10 = .pointer (some ⟨b10, 0, none⟩) ∧ s11 = .pointer (some ⟨b11, 0, none⟩) ∧ b10 ≠ b11 ∧ Blk wx b10 (dArr x.2) 43 ∧ Blk wx b11 (dArr y.2) 43 ∧ Below wr.heap.size wr wx ∧ wr.heap.size ≤ b10 ∧ wr.heap.size ≤ b11 ∧ Tw bn bw gn gw basen basew len ncp wcp A B wx)
      case first =>
        have hbel : Below wr.heap.size wr wr.drew := (Below.refl _ _).drew
        replace htw : Tw bn bw gn gw basen basew len ncp wcp A B wr.drew := htw.next hbel
        refine Ord.region (Tw bn bw gn gw basen basew len ncp wcp A B) [] (by kernel_rfl) htw ?_
        intro hS
        refine Ord.take (i := 0) (v := ?_) 19 rfl rfl (by kernel_rfl) (by kernel_rfl) (by kernel_rfl) (by kernel_rfl) (fun _ _ _ h => h) (by assumption) (Or.inl ⟨by rfl, ?_⟩) ?_
        rotate_left
        · (intro W hSW; first | (with_reducible rfl) | (go_simp; done) | (go_simp; with_reducible rfl))
        try simp only [List.setIfInBounds_toArray, List.set_cons_zero, List.set_cons_succ]
        refine Ord.take (i := 1) 20 rfl rfl (by kernel_rfl) (by kernel_rfl) (by kernel_rfl) (by kernel_rfl) (fun _ _ _ h => h) (by assumption) (yields_load1 (by rfl) 22 _ rfl bn 7 rfl (.slice (some ⟨gn, 0, none⟩) len ncp) Tryz.isAgg22 (fun W hSW => hSW.n7)) ?_
        try simp only [List.setIfInBounds_toArray, List.set_cons_zero, List.set_cons_succ]
        refine Ord.take (i := 2) (v := ?_) 21 rfl rfl (by kernel_rfl) (by kernel_rfl) (by kernel_rfl) (by kernel_rfl) (fun _ _ _ h => h) (by assumption) (Or.inl ⟨by rfl, ?_⟩) ?_
        rotate_left
        · (intro W hSW; first | (with_reducible rfl) | (go_simp; done) | (go_simp; with_reducible rfl))
        try simp only [List.setIfInBounds_toArray, List.set_cons_zero, List.set_cons_succ]
        refine Ord.take (i := 3) (v := ?_) 22 rfl rfl (by kernel_rfl) (by kernel_rfl) (by kernel_rfl) (by kernel_rfl) (fun _ _ _ h => h) (by assumption) (Or.inl ⟨by rfl, ?_⟩) ?_
        rotate_left
        · (intro W hSW; first | (with_reducible rfl) | (go_simp; done) | (go_simp; with_reducible rfl))
        try simp only [List.setIfInBounds_toArray, List.set_cons_zero, List.set_cons_succ]
        refine Ord.take (i := 4) (v := ?_) 23 rfl rfl (by kernel_rfl) (by kernel_rfl) (by kernel_rfl) (by kernel_rfl) (fun _ _ _ h => h) (by assumption) (Or.inl ⟨by rfl, ?_⟩) ?_
        rotate_left
        · (intro W hSW; first | (with_reducible rfl) | (go_simp; done) | (go_simp; with_reducible rfl))
        try simp only [List.setIfInBounds_toArray, List.set_cons_zero, List.set_cons_succ]
        refine Ord.take (i := 5) 24 rfl rfl (by kernel_rfl) (by kernel_rfl) (by kernel_rfl) (by kernel_rfl) (fun _ _ _ h => h) (by assumption) (yieldsIf_load_mid (by rfl) 43 _ rfl gn (i * 20 + 2) rfl ([.int .i64 x.2.val.kind, .bool x.2.val.bool, .float .f64 x.2.val.num, .string x.2.val.str, .int .i64 x.2.val.id, .int .i64 x.2.get.kind, .bool x.2.get.bool, .float .f64 x.2.get.num, .string x.2.get.str, .int .i64 x.2.get.id, .int .i64 x.2.set.kind, .bool x.2.set.bool, .float .f64 x.2.set.num, .string x.2.set.str, .int .i64 x.2.set.id, .int .i64 x.2.w, .int .i64 x.2.e, .int .i64 x.2.c]) _ (fun W hSW => range_pd (hSW.2.1.part i x HXY.out.1)) Tryz.underlying43 rfl Tryz.size43) ?_
        try simp only [List.setIfInBounds_toArray, List.set_cons_zero, List.set_cons_succ]
        refine Ord.take (i := 6) (v := ?_) 25 rfl rfl (by kernel_rfl) (by kernel_rfl) (by kernel_rfl) (by kernel_rfl) (fun _ _ _ h => h) (by assumption) (Or.inl ⟨by rfl, ?_⟩) ?_
        rotate_left
        · (intro W hSW; first | (with_reducible rfl) | (go_simp; done) | (go_simp; with_reducible rfl))
        try simp only [List.setIfInBounds_toArray, List.set_cons_zero, List.set_cons_succ]
        refine Ord.take (i := 7) 26 rfl rfl (by kernel_rfl) (by kernel_rfl) (by kernel_rfl) (by kernel_rfl) (fun _ _ _ h => h) (by assumption) (yields_load1 (by rfl) 22 _ rfl bw 7 rfl (.slice (some ⟨gw, 0, none⟩) len wcp) Tryz.isAgg22 (fun W hSW => hSW.w7)) ?_
        try simp only [List.setIfInBounds_toArray, List.set_cons_zero, List.set_cons_succ]
        refine Ord.take (i := 8) (v := ?_) 27 rfl rfl (by kernel_rfl) (by kernel_rfl) (by kernel_rfl) (by kernel_rfl) (fun _ _ _ h => h) (by assumption) (Or.inl ⟨by rfl, ?_⟩) ?_
        rotate_left
        · (intro W hSW; first | (with_reducible rfl) | (go_simp; done) | (go_simp; with_reducible rfl))
        try simp only [List.setIfInBounds_toArray, List.set_cons_zero, List.set_cons_succ]
        refine Ord.take (i := 9) (v := ?_) 28 rfl rfl (by kernel_rfl) (by kernel_rfl) (by kernel_rfl) (by kernel_rfl) (fun _ _ _ h => h) (by assumption) (Or.inl ⟨by rfl, ?_⟩) ?_
        rotate_left
        · (intro W hSW; first | (with_reducible rfl) | (go_simp; done) | (go_simp; with_reducible rfl))
        try simp only [List.setIfInBounds_toArray, List.set_cons_zero, List.set_cons_succ]
        refine Ord.take (i := 10) (v := ?_) 29 rfl rfl (by kernel_rfl) (by kernel_rfl) (by kernel_rfl) (by kernel_rfl) (fun _ _ _ h => h) (by assumption) (Or.inl ⟨by rfl, ?_⟩) ?_
        rotate_left
        · (intro W hSW; first | (with_reducible rfl) | (go_simp; done) | (go_simp; with_reducible rfl))
        try simp only [List.setIfInBounds_toArray, List.set_cons_zero, List.set_cons_succ]
        refine Ord.take (i := 11) 30 rfl rfl (by kernel_rfl) (by kernel_rfl) (by kernel_rfl) (by kernel_rfl) (fun _ _ _ h => h) (by assumption) (yieldsIf_load_mid (by rfl) 43 _ rfl gw (i * 20 + 2) rfl ([.int .i64 y.2.val.kind, .bool y.2.val.bool, .float .f64 y.2.val.num, .string y.2.val.str, .int .i64 y.2.val.id, .int .i64 y.2.get.kind, .bool y.2.get.bool, .float .f64 y.2.get.num, .string y.2.get.str, .int .i64 y.2.get.id, .int .i64 y.2.set.kind, .bool y.2.set.bool, .float .f64 y.2.set.num, .string y.2.set.str, .int .i64 y.2.set.id, .int .i64 y.2.w, .int .i64 y.2.e, .int .i64 y.2.c]) _ (fun W hSW => range_pd (hSW.2.2.part i y HXY.out.2)) Tryz.underlying43 rfl Tryz.size43) ?_
        try simp only [List.setIfInBounds_toArray, List.set_cons_zero, List.set_cons_succ]
        refine Ord.two (i := 12) (j := 13) rfl rfl (by kernel_rfl) (by rfl) (by rfl) ?_ ?_
        · intro K HK
          refine alloc_op 43 rfl (dArr Dc.d0) zero43 ?_
          intro wx12 bx12 hBx12 hbx12 hLx12
          have hlx12 : wr.heap.size ≤ bx12 := by have := hbel.size; omega
          try have hne : bx12 ≠ bx13 := by have := hBx13.lt; omega
          try replace hBx13 := hBx13.next hLx12
          clear hbx12
          replace hbel := hbel.trans (hLx12.mono hbel.size)
          replace htw := htw.next hLx12
          refine HK.out _ _ ?_
          clear HK
          refine Ord.keep (S := Tw bn bw gn gw basen basew len ncp wcp A B) ?_ ?_
          · exact htw
          clear hS
          intro hS
          try simp only [List.setIfInBounds_toArray, List.set_cons_zero, List.set_cons_succ]
          refine Ord.step (i := 13) rfl (by kernel_rfl) (by rfl) ?_
          intro K HK
          refine alloc_op 43 rfl (dArr Dc.d0) zero43 ?_
          intro wx13 bx13 hBx13 hbx13 hLx13
          have hlx13 : wr.heap.size ≤ bx13 := by have := hbel.size; omega
          try have hne : bx12 ≠ bx13 := by have := hBx12.lt; omega
          try replace hBx12 := hBx12.next hLx13
          clear hbx13
          replace hbel := hbel.trans (hLx13.mono hbel.size)
          replace htw := htw.next hLx13
          refine HK.out _ _ ?_
          clear HK
          refine Ord.keep (S := Tw bn bw gn gw basen basew len ncp wcp A B) ?_ ?_
          · exact htw
          clear hS
          intro hS
          try simp only [List.setIfInBounds_toArray, List.set_cons_zero, List.set_cons_succ]
          refine Ord.step (i := 14) rfl (by kernel_rfl) (by rfl) ?_
          intro K HK
          refine store_blk_op 43 (.tmp 10) (.tmp 24) rfl bx12 (dArr x.2) (dArr Dc.d0) 43 rfl rfl hBx12 Tryz.size43 rfl (dCells_one _) ?_
          intro ws14 hBs14 hOs14
          replace htw := htw.free hBx12 hOs14
          replace hbel := hbel.trans (hOs14.below wr.heap.size hbel.size (by simp; omega))
          replace hBx13 := hBx13.only hOs14 (by simp; omega)
          clear hBx12
          have hBx12 := hBs14
          refine HK.out _ _ ?_
          clear HK
          refine Ord.keep (S := Tw bn bw gn gw basen basew len ncp wcp A B) ?_ ?_
          · exact htw
          clear hS
          intro hS
          try simp only [List.setIfInBounds_toArray, List.set_cons_zero, List.set_cons_succ]
          refine Ord.step (i := 15) rfl (by kernel_rfl) (by rfl) ?_
          intro K HK
          refine store_blk_op 43 (.tmp 11) (.tmp 30) rfl bx13 (dArr y.2) (dArr Dc.d0) 43 rfl rfl hBx13 Tryz.size43 rfl (dCells_one _) ?_
          intro ws15 hBs15 hOs15
          replace htw := htw.free hBx13 hOs15
          replace hbel := hbel.trans (hOs15.below wr.heap.size hbel.size (by simp; omega))
          replace hBx12 := hBx12.only hOs15 (by simp; omega)
          clear hBx13
          have hBx13 := hBs15
          refine HK.out _ _ ?_
          clear HK
          refine ⟨Ord.no_pend (S := Tw bn bw gn gw basen basew len ncp wcp A B) (by kernel_rfl), ?_⟩
          try simp only [List.setIfInBounds_toArray, List.set_cons_zero, List.set_cons_succ]
          refine Ord.done (by kernel_rfl) ?_ _
          go_wp2_with fail
          go_meet
          exact ⟨bx12, bx13, rfl, rfl, hne, hBx12, hBx13, hbel, hlx12, hlx13, htw⟩
        · intro K HK
          refine alloc_op 43 rfl (dArr Dc.d0) zero43 ?_
          intro wx13 bx13 hBx13 hbx13 hLx13
          have hlx13 : wr.heap.size ≤ bx13 := by have := hbel.size; omega
          try have hne : bx12 ≠ bx13 := by have := hBx12.lt; omega
          try replace hBx12 := hBx12.next hLx13
          clear hbx13
          replace hbel := hbel.trans (hLx13.mono hbel.size)
          replace htw := htw.next hLx13
          refine HK.out _ _ ?_
          clear HK
          refine Ord.keep (S := Tw bn bw gn gw basen basew len ncp wcp A B) ?_ ?_
          · exact htw
          clear hS
          intro hS
          try simp only [List.setIfInBounds_toArray, List.set_cons_zero, List.set_cons_succ]
          refine Ord.step (i := 12) rfl (by kernel_rfl) (by rfl) ?_
          intro K HK
          refine alloc_op 43 rfl (dArr Dc.d0) zero43 ?_
          intro wx12 bx12 hBx12 hbx12 hLx12
          have hlx12 : wr.heap.size ≤ bx12 := by have := hbel.size; omega
          try have hne : bx12 ≠ bx13 := by have := hBx13.lt; omega
          try replace hBx13 := hBx13.next hLx12
          clear hbx12
          replace hbel := hbel.trans (hLx12.mono hbel.size)
          replace htw := htw.next hLx12
          refine HK.out _ _ ?_
          clear HK
          refine Ord.keep (S := Tw bn bw gn gw basen basew len ncp wcp A B) ?_ ?_
          · exact htw
          clear hS
          intro hS
          try simp only [List.setIfInBounds_toArray, List.set_cons_zero, List.set_cons_succ]
          refine Ord.step (i := 14) rfl (by kernel_rfl) (by rfl) ?_
          intro K HK
          refine store_blk_op 43 (.tmp 10) (.tmp 24) rfl bx12 (dArr x.2) (dArr Dc.d0) 43 rfl rfl hBx12 Tryz.size43 rfl (dCells_one _) ?_
          intro ws14 hBs14 hOs14
          replace htw := htw.free hBx12 hOs14
          replace hbel := hbel.trans (hOs14.below wr.heap.size hbel.size (by simp; omega))
          replace hBx13 := hBx13.only hOs14 (by simp; omega)
          clear hBx12
          have hBx12 := hBs14
          refine HK.out _ _ ?_
          clear HK
          refine Ord.keep (S := Tw bn bw gn gw basen basew len ncp wcp A B) ?_ ?_
          · exact htw
          clear hS
          intro hS
          try simp only [List.setIfInBounds_toArray, List.set_cons_zero, List.set_cons_succ]
          refine Ord.step (i := 15) rfl (by kernel_rfl) (by rfl) ?_
          intro K HK
          refine store_blk_op 43 (.tmp 11) (.tmp 30) rfl bx13 (dArr y.2) (dArr Dc.d0) 43 rfl rfl hBx13 Tryz.size43 rfl (dCells_one _) ?_
          intro ws15 hBs15 hOs15
          replace htw := htw.free hBx13 hOs15
          replace hbel := hbel.trans (hOs15.below wr.heap.size hbel.size (by simp; omega))
          replace hBx12 := hBx12.only hOs15 (by simp; omega)
          clear hBx13
          have hBx13 := hBs15
          refine HK.out _ _ ?_
          clear HK
          refine ⟨Ord.no_pend (S := Tw bn bw gn gw basen basew len ncp wcp A B) (by kernel_rfl), ?_⟩
          try simp only [List.setIfInBounds_toArray, List.set_cons_zero, List.set_cons_succ]
          refine Ord.done (by kernel_rfl) ?_ _
          go_wp2_with fail
          go_meet
          exact ⟨bx12, bx13, rfl, rfl, hne, hBx12, hBx13, hbel, hlx12, hlx13, htw⟩
      case rest => as_aux_lemma =>
      obtain ⟨b10, b11, rfl, rfl, hne, hB10, hB11, hbel, hl10, hl11, htw1⟩ := hcut
      clear htw hn7
      replace htw1 : Tw bn bw gn gw basen basew len ncp wcp A B (World.drew _) := htw1.next (Below.refl _ _).drew
      replace hB10 := hB10.drewB
      replace hB11 := hB11.drewB
      replace hbel := hbel.drew
      go_wp2
      refine Ord.region (Tw bn bw gn gw basen basew len ncp wcp A B) [] (by kernel_rfl) htw1 ?_
      intro hS
      refine Ord.take (i := 0) (v := ?_) 31 rfl rfl (by kernel_rfl) (by kernel_rfl) (by kernel_rfl) (by kernel_rfl) (fun _ _ _ h => h) (by assumption) (Or.inl ⟨by rfl, ?_⟩) ?_
      rotate_left
      · (intro W hSW; first | (with_reducible rfl) | (go_simp; done) | (go_simp; with_reducible rfl))
      try simp only [List.setIfInBounds_toArray, List.set_cons_zero, List.set_cons_succ]
      refine Ord.take (i := 1) 32 rfl rfl (by kernel_rfl) (by kernel_rfl) (by kernel_rfl) (by kernel_rfl) (fun _ _ _ h => h) (by assumption) (yields_load1 (by rfl) 22 _ rfl bn 7 rfl (.slice (some ⟨gn, 0, none⟩) len ncp) Tryz.isAgg22 (fun W hSW => hSW.n7)) ?_
      try simp only [List.setIfInBounds_toArray, List.set_cons_zero, List.set_cons_succ]
      refine Ord.take (i := 2) (v := ?_) 33 rfl rfl (by kernel_rfl) (by kernel_rfl) (by kernel_rfl) (by kernel_rfl) (fun _ _ _ h => h) (by assumption) (Or.inl ⟨by rfl, ?_⟩) ?_
      rotate_left
      · (intro W hSW; first | (with_reducible rfl) | (go_simp; done) | (go_simp; with_reducible rfl))
      try simp only [List.setIfInBounds_toArray, List.set_cons_zero, List.set_cons_succ]
      refine Ord.take (i := 3) (v := ?_) 34 rfl rfl (by kernel_rfl) (by kernel_rfl) (by kernel_rfl) (by kernel_rfl) (fun _ _ _ h => h) (by assumption) (Or.inl ⟨by rfl, ?_⟩) ?_
      rotate_left
      · (intro W hSW; first | (with_reducible rfl) | (go_simp; done) | (go_simp; with_reducible rfl))
      try simp only [List.setIfInBounds_toArray, List.set_cons_zero, List.set_cons_succ]
      refine Ord.take (i := 4) (v := ?_) 35 rfl rfl (by kernel_rfl) (by kernel_rfl) (by kernel_rfl) (by kernel_rfl) (fun _ _ _ h => h) (by assumption) (Or.inl ⟨by rfl, ?_⟩) ?_
      rotate_left
      · (intro W hSW; first | (with_reducible rfl) | (go_simp; done) | (go_simp; with_reducible rfl))
      try simp only [List.setIfInBounds_toArray, List.set_cons_zero, List.set_cons_succ]
      refine Ord.take (i := 5) 36 rfl rfl (by kernel_rfl) (by kernel_rfl) (by kernel_rfl) (by kernel_rfl) (fun _ _ _ h => h) (by assumption) (yieldsIf_load_mid (by rfl) 40 _ rfl gn (i * 20) rfl ([.string x.1.str, .int .i64 x.1.sym]) _ (fun W hSW => range_pky (hSW.2.1.part i x HXY.out.1)) Tryz.underlying40 rfl Tryz.size40) ?_
      try simp only [List.setIfInBounds_toArray, List.set_cons_zero, List.set_cons_succ]
      refine Ord.take (i := 6) (v := ?_) 37 rfl rfl (by kernel_rfl) (by kernel_rfl) (by kernel_rfl) (by kernel_rfl) (fun _ _ _ h => h) (by assumption) (Or.inl ⟨by rfl, ?_⟩) ?_
      rotate_left
      · (intro W hSW; first | (with_reducible rfl) | (go_simp; done) | (go_simp; with_reducible rfl))
      try simp only [List.setIfInBounds_toArray, List.set_cons_zero, List.set_cons_succ]
      refine Ord.take (i := 7) 38 rfl rfl (by kernel_rfl) (by kernel_rfl) (by kernel_rfl) (by kernel_rfl) (fun _ _ _ h => h) (by assumption) (yields_load1 (by rfl) 22 _ rfl bw 7 rfl (.slice (some ⟨gw, 0, none⟩) len wcp) Tryz.isAgg22 (fun W hSW => hSW.w7)) ?_
      try simp only [List.setIfInBounds_toArray, List.set_cons_zero, List.set_cons_succ]
      refine Ord.take (i := 8) (v := ?_) 39 rfl rfl (by kernel_rfl) (by kernel_rfl) (by kernel_rfl) (by kernel_rfl) (fun _ _ _ h => h) (by assumption) (Or.inl ⟨by rfl, ?_⟩) ?_
      rotate_left
      · (intro W hSW; first | (with_reducible rfl) | (go_simp; done) | (go_simp; with_reducible rfl))
      try simp only [List.setIfInBounds_toArray, List.set_cons_zero, List.set_cons_succ]
      refine Ord.take (i := 9) (v := ?_) 40 rfl rfl (by kernel_rfl) (by kernel_rfl) (by kernel_rfl) (by kernel_rfl) (fun _ _ _ h => h) (by assumption) (Or.inl ⟨by rfl, ?_⟩) ?_
      rotate_left
      · (intro W hSW; first | (with_reducible rfl) | (go_simp; done) | (go_simp; with_reducible rfl))
      try simp only [List.setIfInBounds_toArray, List.set_cons_zero, List.set_cons_succ]
      refine Ord.take (i := 10) (v := ?_) 41 rfl rfl (by kernel_rfl) (by kernel_rfl) (by kernel_rfl) (by kernel_rfl) (fun _ _ _ h => h) (by assumption) (Or.inl ⟨by rfl, ?_⟩) ?_
      rotate_left
      · (intro W hSW; first | (with_reducible rfl) | (go_simp; done) | (go_simp; with_reducible rfl))
      try simp only [List.setIfInBounds_toArray, List.set_cons_zero, List.set_cons_succ]
      refine Ord.take (i := 11) 42 rfl rfl (by kernel_rfl) (by kernel_rfl) (by kernel_rfl) (by kernel_rfl) (fun _ _ _ h => h) (by assumption) (yieldsIf_load_mid (by rfl) 40 _ rfl gw (i * 20) rfl ([.string x.1.str, .int .i64 x.1.sym]) _ (fun W hSW => (by rw [HKEY.out]; exact range_pky (hSW.2.2.part i y HXY.out.2))) Tryz.underlying40 rfl Tryz.size40) ?_
      try simp only [List.setIfInBounds_toArray, List.set_cons_zero, List.set_cons_succ]
      refine Ord.step (i := 12) rfl (by kernel_rfl) (by rfl) ?_
      intro K HK
      go_simp
      refine HK.out _ _ ?_
      clear HK
      refine ⟨Ord.no_pend (S := Tw bn bw gn gw basen basew len ncp wcp A B) (by kernel_rfl), ?_⟩
      try simp only [List.setIfInBounds_toArray, List.set_cons_zero, List.set_cons_succ]
      refine Ord.done (by kernel_rfl) ?_ _
      clear hS
      go_upto_if 46 with fail
      go_cut [] (fun wx => Blk wx b10 (dArr x.2) 43 ∧ Blk wx b11 (dArr x.2) 43 ∧ Below wr.heap.size wr wx ∧ Tw bn bw gn gw basen basew len ncp wcp A B wx)
      case first =>
        by_cases hin : i < n
        · have hin' : (i : Int) < (n : Int) := by omega
          have hxy := HDD.out
          rw [if_pos hin] at hxy
          unfold fixD at hxy
          cases fz
          · have HD2 : Hid (x.2 = { y.2 with c := 1 }) := Lib.hid (by simpa using hxy)
            clear hxy
            go_wp2_with (first | ((with_reducible show wpList _ _ _ (⟨_, .store 41 (.tmp 47) _, _, _, _, _⟩ :: _) _ _); refine wpList_store1 rfl 41 _ _ rfl b11 17 (dArr y.2) 43 (.int .i64 1) rfl rfl hB11 Tryz.size41 (show 17 < 18 from by decide) rfl rfl ?_; intro ws hBs hOs; replace hB10 := hB10.only hOs (by simpa using hne); replace htw1 := htw1.free hB11 hOs; replace hbel := hbel.trans (hOs.below wr.heap.size hbel.size (by simp; omega)); clear hB11; have hB11 := hBs; clear hBs hOs))
            go_meet
            exact ⟨hB10, by rw [HD2.out]; exact hB11, hbel, htw1⟩
          · by_cases hth : y.2.val.kind = 0
            · have HD2 : Hid (x.2 = { y.2 with c := 1 }) := Lib.hid (by simpa [Dc.there, hth] using hxy)
              clear hxy
              go_wp2_with (first | ((with_reducible show wpList _ _ _ (⟨_, .store 41 (.tmp 47) _, _, _, _, _⟩ :: _) _ _); refine wpList_store1 rfl 41 _ _ rfl b11 17 (dArr y.2) 43 (.int .i64 1) rfl rfl hB11 Tryz.size41 (show 17 < 18 from by decide) rfl rfl ?_; intro ws hBs hOs; replace hB10 := hB10.only hOs (by simpa using hne); replace htw1 := htw1.free hB11 hOs; replace hbel := hbel.trans (hOs.below wr.heap.size hbel.size (by simp; omega)); clear hB11; have hB11 := hBs; clear hBs hOs) | ((with_reducible show wpList _ _ _ (⟨_, .load 3 (.tmp 51), _, _, _, _⟩ :: _) _ _); refine wpList_load1 (by rfl) 3 _ rfl b11 0 rfl (.int .i64 y.2.val.kind) (Tryz.isAgg3 _) (hB11.cell 0) ?_))
              go_meet
              exact ⟨hB10, by rw [HD2.out]; exact hB11, hbel, htw1⟩
            · have HD2 : Hid (x.2 = { y.2 with w := 1, c := 1 }) := Lib.hid (by simpa [Dc.there, hth] using hxy)
              clear hxy
              go_wp2_with (first | ((with_reducible show wpList _ _ _ (⟨_, .store 41 (.tmp 47) _, _, _, _, _⟩ :: _) _ _); refine wpList_store1 rfl 41 _ _ rfl b11 17 (dArr y.2) 43 (.int .i64 1) rfl rfl hB11 Tryz.size41 (show 17 < 18 from by decide) rfl rfl ?_; intro ws hBs hOs; replace hB10 := hB10.only hOs (by simpa using hne); replace htw1 := htw1.free hB11 hOs; replace hbel := hbel.trans (hOs.below wr.heap.size hbel.size (by simp; omega)); clear hB11; have hB11 := hBs; clear hBs hOs) | ((with_reducible show wpList _ _ _ (⟨_, .load 3 (.tmp 51), _, _, _, _⟩ :: _) _ _); refine wpList_load1 (by rfl) 3 _ rfl b11 0 rfl (.int .i64 y.2.val.kind) (Tryz.isAgg3 _) (hB11.cell 0) ?_) | ((with_reducible show wpList _ _ _ (⟨_, .store 41 (.tmp 55) _, _, _, _, _⟩ :: _) _ _); refine wpList_store1 rfl 41 _ _ rfl b11 15 (dArr { y.2 with c := 1 }) 43 (.int .i64 1) rfl rfl hB11 Tryz.size41 (show 15 < 18 from by decide) rfl rfl ?_; intro ws hBs hOs; replace hB10 := hB10.only hOs (by simpa using hne); replace htw1 := htw1.free hB11 hOs; replace hbel := hbel.trans (hOs.below wr.heap.size hbel.size (by simp; omega)); clear hB11; have hB11 := hBs; clear hBs hOs))
              go_meet
              exact ⟨hB10, by rw [HD2.out]; exact hB11, hbel, htw1⟩
        · have hin' : ¬ (i : Int) < (n : Int) := by omega
          have HD2 : Hid (x.2 = y.2) := Lib.hid (by have := HDD.out; rw [if_neg hin] at this; exact this)
          go_wp2_with fail
          go_meet
          exact ⟨hB10, by rw [HD2.out]; exact hB11, hbel, htw1⟩
      case rest => as_aux_lemma =>
      obtain ⟨hB10c, hB11c, hbelc, htwc⟩ := hcut
      clear hB10 hB11 hbel htw1
      go_wp2_with (first | ((with_reducible show wpList _ _ _ (⟨some 56, .load 43 _, _, _, _, _⟩ :: _) _ _); refine wpList_load_blk rfl 43 _ rfl _ rfl hB10c Tryz.row43 Tryz.size43 ?_) | ((with_reducible show wpList _ _ _ (⟨some 57, .load 43 _, _, _, _, _⟩ :: _) _ _); refine wpList_load_blk rfl 43 _ rfl _ rfl hB11c Tryz.row43 Tryz.size43 ?_) | (go_at_call 86; refine (eqd_refl _ _).mono ?_; rintro e wZ ⟨rfl, hbZ⟩))
      go_roundg fu
      case measure => omega
      case rel =>
        have e := HI3.out.2
        subst e
        exact ⟨i + 1, rfl, HI3.out.1, hbW.trans ((hbelc.trans (hbZ.mono hbelc.size)).mono hbW.size)⟩
    · obtain rfl : i = len := by omega
      have e4 : ¬ (i : Int) < (i : Int) := by omega
      have hc7 := (hN.next hbW).cellS
      go_wp2
      go_ret
      exact ⟨rfl, HLL.out.trans (hbW.mono HLL.out.size)⟩

end Go.Proofs.YtoalboilghgalaaGreatDoor
