import Derived.Test.YtkkcacpcicnihaaLeads
import Derived.Test.YtkkcacpcicnihaaRsame2
import Derived.Deep.RegionLaw
import Derived.Deep.AppendLies
import Derived.BigQuiet
namespace Go.Proofs.Ytkkcacpcicnihaa
open Go.RowKit
open Go.Proofs.Cl

theorem Try.info3 : (Try.prog.info? 3).map (fun i => (i.zero, i.size, i.bytes)) = some (some (.int .i64 0), 1, 8) := by kernel_rfl

def natCells (os : List Nat) : List Value := os.map fun (o : Nat) => Value.int .i64 (o : Int)
theorem natCells_length (os : List Nat) : (natCells os).length = os.length := by simp [natCells]
theorem natCells_append (a b : List Nat) : natCells (a ++ b) = natCells a ++ natCells b := by simp [natCells]
theorem natCells_at {os : List Nat} {j : Nat} (h : j < os.length) : (natCells os)[j]? = some (.int .i64 ((os.getD j 0 : Nat) : Int)) := by
  unfold natCells
  rw [List.getElem?_map, List.getElem?_eq_getElem h, List.getD_eq_getElem?_getD, List.getElem?_eq_getElem h]
  rfl
theorem natCells_one (os : List Nat) : ∀ u ∈ natCells os, u.oneCell' = true := by
  intro u hu
  obtain ⟨o, _, rfl⟩ := List.mem_map.1 hu
  rfl

theorem NatsAt.of_own {w : World} {base n c : Nat} {A : Option Addr} {os : List Nat} (h : w.ownsRow base 3 1 (.slice A n c) n (natCells os)) : NatsAt w A os := by
  intro i hi
  have hn : os.length = n := by have := h.1; simpa [natCells_length] using this
  rcases h.2 with ⟨hv, h0⟩ | ⟨g, cap, cur, hv, hg, hh, hcap, hm, hsz, htk⟩
  · omega
  · injection hv with hA hn' hc
    refine ⟨g, 0, hA, lt_of_block hh, ?_⟩
    have hc := h.cells (g := g) (by rw [hA]; rfl) i (.int .i64 ((os.getD i 0 : Nat) : Int)) (natCells_at hi)
    rw [Addr.add_mid] at hc
    simpa using hc

theorem append_nats {t ty : TypeId} {i : TypeInfo} (ht : Try.prog.underlying t = some (.slice 3)) (hi : Try.prog.info? 3 = some i) (hz : i.zero = some (.int .i64 0)) (hsize : i.size = 1) (hby : i.bytes = 8)
    (w : World) (base : Nat) (v : Value) (n : Nat) (xs : List Value) (hown : w.ownsRow base 3 1 v n xs) (A : Option Addr) (c : Nat) (os : List Nat) (hx : NatsAt w A os)
    (hlen : n + os.length ≤ maxLen) (hlb : (n + os.length) * 8 ≤ 140737488355328) (hbase : base ≤ w.heap.size) :
    ∃ v' w', (Builtin.append_ #[t, t] ty #[v, .slice A os.length c]).run Try.prog w = .ok v' w' ∧ w'.ownsRow base 3 1 v' (n + os.length) (xs ++ natCells os) ∧ w.grownBy w' v.ownBlock ∧
      (v'.ownBlock = v.ownBlock ∨ v'.ownBlock = some w.heap.size) := by
  cases A with
  | none =>
    have h0 : os = [] := by
      cases os with
      | nil => rfl
      | cons o os => obtain ⟨b, off, h, _⟩ := hx 0 (by simp); cases h
    subst h0
    refine ⟨v, w, ?_, by simpa [natCells] using hown, World.grownBy.refl w _, .inl rfl⟩
    rcases hown.2 with ⟨rfl, rfl⟩ | ⟨g, cap, cur, rfl, _, _, hnc, _⟩
    · simp [Builtin.append_, run_underlying ht, sizeOf, typeInfo, hi, Builtin.lenOf, Builtin.firstCells]
    · simp [Builtin.append_, run_underlying ht, sizeOf, typeInfo, hi, Builtin.lenOf, Builtin.firstCells, hnc, storeCells]
  | some ad =>
    obtain ⟨v', w', h1, h2, h3, _, h5⟩ := run_append_own_at (P := Try.prog) w base t ty 3 i (.int .i64 0) 1 8 ht hi hz hsize hby rfl (by decide) v n xs hown ad os.length c (natCells os) (by simp [natCells_length])
      (by
        intro j u hj
        have hj' : j < os.length := by have := (List.getElem?_eq_some_iff.1 hj).1; simpa [natCells_length] using this
        obtain ⟨b, off, h, _, hc⟩ := hx j hj'
        rw [Option.some.inj h, Addr.add_mid, hc, ← hj, natCells_at hj'])
      (natCells_one os) hlen hlb hbase
    exact ⟨v', w', h1, h2, h3, h5⟩

theorem step_append_nats {ops : Array Oper} {o : Oper} {a : Act} {w : World} {K : Act → World → Prop} {Q : Exit → Act → World → Prop} {E : Prop} (hgd : o.guard = none) (s x : Operand) (t : TypeId)
    (ho : o.op = .call { callee := .builtin .append, args := #[s, x], argTypes := #[t, t] })
    {i : TypeInfo} (ht : Try.prog.underlying t = some (.slice 3)) (hi : Try.prog.info? 3 = some i) (hz : i.zero = some (.int .i64 0)) (hsize : i.size = 1) (hby : i.bytes = 8)
    (base : Nat) (v : Value) (n : Nat) (xs : List Value) (hs : a.eval s = v) (hown : w.ownsRow base 3 1 v n xs) (A : Option Addr) (c : Nat) (os : List Nat) (hx : a.eval x = .slice A os.length c) (hr : NatsAt w A os)
    (hlen : n + os.length ≤ maxLen) (hlb : (n + os.length) * 8 ≤ 140737488355328) (hbase : base ≤ w.heap.size)
    (h : ∀ v' w', w'.ownsRow base 3 1 v' (n + os.length) (xs ++ natCells os) → w.grownBy w' v.ownBlock → (v'.ownBlock = v.ownBlock ∨ v'.ownBlock = some w.heap.size) → K (a.put o.dst v') w') :
    if Region.wanted o (yielded ops a.tmps) = true then Oper.wp Try.prog o a w K Q else E := by
  have hw : Region.wanted o (yielded ops a.tmps) = true := by simp [Region.wanted, hgd]
  rw [if_pos hw]
  obtain ⟨v', w', hrun, h2, h3, h4⟩ := append_nats (t := t) (ty := o.type) ht hi hz hsize hby w base v n xs hown A c os hr hlen hlb hbase
  unfold Oper.wp execOp
  simp only [ho, resolve, invoke, builtin, Sem.run_bind, Sem.run_pure, Result.andThen_ok, List.map_toArray, List.map_cons, List.map_nil, hs, hx, hrun]
  exact h v' w' h2 h3 h4

theorem NatsAt.alloc {w : World} {A : Option Addr} {l : List Nat} (h : NatsAt w A l) (o : Obj) : NatsAt (w.alloc o) A l := h.below ((Below.refl _ _).alloc (Nat.le_refl _) o)

theorem NatsAt.grown {w w' : World} {A : Option Addr} {l : List Nat} {row : Option Nat} (h : NatsAt w A l) (hg : w.grownBy w' row) (hne : ∀ ad, A = some ad → some ad.block ≠ row) : NatsAt w' A l := fun i hi => by
  obtain ⟨b, off, hA, hlt, hc⟩ := h i hi
  exact ⟨b, off, hA, Nat.lt_of_lt_of_le hlt hg.size, hg.cell (a := ⟨b, off + i, none⟩) hc (hne ⟨b, off, none⟩ hA)⟩

theorem natsAt_one (w : World) {o : Nat} {i : Int} (h : (o : Int) = i) (b : Nat) (hb : b = w.heap.size) : NatsAt (w.alloc (.cells #[.int .i64 i] 3)) (some ⟨b, 0, none⟩) [o] := fun k hk => by
  have : k = 0 := by simpa using hk
  subst this
  subst hb
  refine ⟨_, _, rfl, by simp, ?_⟩
  rw [cell_of_row _ _ _ _ _ _ (heap_alloc_new w (.cells #[.int .i64 i] 3)), ← h]
  rfl

theorem natsAt_grown1 (X : World) {o : Nat} {i : Int} (h : (o : Int) = i) {w3 : World} (hg : ((X.alloc (.cells #[] 3)).alloc (.cells #[.int .i64 i] 3)).grownBy w3 (Value.slice (some ⟨X.heap.size, 0, none⟩) 0 0).ownBlock) :
    NatsAt w3 (some ⟨X.heap.size + 1, 0, none⟩) [o] := by
  refine NatsAt.grown (natsAt_one (X.alloc (.cells #[] 3)) h (X.heap.size + 1) (by simp)) hg ?_
  intro ad hh
  cases hh
  simp [Value.ownBlock]
theorem natsAt_grown2 (X : World) {o : Nat} {i : Int} (h : (o : Int) = i) {w3 : World} (hg : ((X.alloc (.cells #[.int .i64 i] 3)).alloc (.cells #[] 3)).grownBy w3 (Value.slice (some ⟨X.heap.size + 1, 0, none⟩) 0 0).ownBlock) :
    NatsAt w3 (some ⟨X.heap.size, 0, none⟩) [o] := by
  refine NatsAt.grown ((natsAt_one X h X.heap.size rfl).alloc _) hg ?_
  intro ad hh
  cases hh
  simp [Value.ownBlock]

theorem own_empty (w : World) (base b : Nat) (hb : b = w.heap.size) (hbase : base ≤ w.heap.size) : (w.alloc (.cells #[] 3)).ownsRow base 3 1 (.slice (some ⟨b, 0, none⟩) 0 0) 0 [] := by
  subst hb
  exact World.ownsRow_lit w #[] 0 hbase (by decide) rfl

/-- a slice of numbers that is handed back -/
def JoinPost (w : World) (os : List Nat) (e : Ending) (w' : World) : Prop := ∃ A c, e = .returned (.slice A os.length c) ∧ NatsAt w' A os ∧ Below w.heap.size w w'

theorem JoinPost.of_own {w w' : World} {base n : Nat} {v : Value} {os : List Nat} {xs : List Value} (hown : w'.ownsRow base 3 1 v n xs) (hn : n = os.length) (hx : xs = natCells os) (hb : Below w.heap.size w w') :
    JoinPost w os (.returned v) w' := by
  subst hn
  subst hx
  have h2 := hown
  rcases hown.2 with ⟨rfl, h0⟩ | ⟨g, cap, cur, rfl, _⟩
  · obtain rfl : os = [] := List.eq_nil_of_length_eq_zero h0
    exact ⟨none, 0, rfl, fun i hi => absurd hi (by simp), hb⟩
  · exact ⟨_, _, rfl, NatsAt.of_own h2, hb⟩

theorem joinV_no {n : Nat} {os : List Nat} {v : V} (h : isObj n v = false) : joinV n os v = os := by
  have : among n v = 0 := among_neg (by simpa [isObj] using h)
  unfold joinV; rw [if_pos this]
theorem joinV_old {n : Nat} {os : List Nat} {v : V} (h : isObj n v = true) {k : Nat} (hk : k < os.length) (he : ((os[k] : Nat) : Int) = v.id) : joinV n os v = os := by
  obtain ⟨h1, h2, h3⟩ : v.kind = 7 ∧ 1 ≤ v.id ∧ v.id ≤ n := by simpa [isObj] using h
  have ha := among_pos h1 h2 h3
  unfold joinV
  have : among n v = os[k] := by omega
  rw [if_neg (by omega), if_pos (by rw [this]; exact List.getElem_mem hk)]
theorem joinV_new {n : Nat} {os : List Nat} {v : V} (h : isObj n v = true) (hno : ∀ j, j < os.length → ((os.getD j 0 : Nat) : Int) ≠ v.id) : joinV n os v = os ++ [among n v] := by
  obtain ⟨h1, h2, h3⟩ : v.kind = 7 ∧ 1 ≤ v.id ∧ v.id ≤ n := by simpa [isObj] using h
  have ha := among_pos h1 h2 h3
  unfold joinV
  rw [if_neg (by omega), if_neg]
  intro hm
  obtain ⟨j, hj, e⟩ := List.getElem_of_mem hm
  refine hno j hj ?_
  rw [List.getD_eq_getElem?_getD, List.getElem?_eq_getElem hj]
  simp only [Option.getD_some]
  omega
theorem among_id {n : Nat} {v : V} (h : isObj n v = true) : ((among n v : Nat) : Int) = v.id := by
  obtain ⟨h1, h2, h3⟩ : v.kind = 7 ∧ 1 ≤ v.id ∧ v.id ≤ n := by simpa [isObj] using h
  exact among_pos h1 h2 h3

set_option maxRecDepth 100000 in
set_option maxHeartbeats 4000000 in
theorem joined_any (A : Option Addr) (cap : Nat) (os : List Nat) (v : V) (n : Nat) (w : World) (hos : NatsAt w A os) (hl : os.length ≤ 1000000) :
    Calls Try.prog 20 #[.slice A os.length cap, vAgg v, .int .i64 (n : Int)] w (JoinPost w (joinV n os v)) := by
  obtain ⟨i0, hi, hz0, hz1, hz2⟩ := info_parts Try.info3
  have HOS := Lib.hid hos
  clear hos
  have b1 := Lib.hid ((Below.refl w.heap.size w).alloc (Nat.le_refl _) (.cells (vCells v) 25))
  have bv := Lib.hid (boxAt_new w v 25)
  cases h : isObj n v
  · have hj := Lib.hid (joinV_no (os := os) h)
    go_enter Try.func20, Try.ntmps20
    go_wp2_with fail
    refine (object_no n v _ h).mono ?_
    rintro e w1 ⟨rfl, hb1⟩
    have HB := Lib.hid (b1.out.trans (hb1.mono (by simp)))
    clear hb1
    go_wp2
    go_ret
    rw [hj.out]
    exact ⟨A, cap, rfl, HOS.out.below HB.out, HB.out⟩
  · go_enter Try.func20, Try.ntmps20
    go_wp2_with fail
    refine (object_yes n v _ h).mono ?_
    rintro e w1 ⟨rfl, hb1⟩
    have HB := Lib.hid (b1.out.trans (hb1.mono (by simp)))
    have HV := Lib.hid (bv.out.below hb1 (by simp))
    have HN := Lib.hid (HOS.out.below HB.out)
    have HZ := hb1.size
    simp at HZ
    clear hb1 HOS
    obtain ⟨x1, x2, x3, x4, x5⟩ := HV.out
    go_wp2
    go_loopw [7] (fun i wr => ∃ k : Nat, k ≤ os.length ∧ i = .int .i64 k ∧ (∀ j, j < k → ((os.getD j 0 : Nat) : Int) ≠ v.id) ∧ ∃ m, wr = w1.drewN m) (fun i _ => os.length - (intOf i).toNat)
    case atStart => exact ⟨0, Nat.zero_le _, rfl, fun j hj => absurd hj (by omega), 0, rfl⟩
    case round =>
      obtain ⟨k, hk, rfl, hno, m, rfl⟩ := hrel
      have HNO := Lib.hid hno
      clear hno
      by_cases hlt : k < os.length
      · obtain ⟨b, off, rfl, _, hcell⟩ := HN.out k hlt
        go_wp2_with fail
        go_quiet (fail)
        have HM := Lib.hid HNO.out
        go_wp2
        · go_ret
          have he : ((((os[k]'hlt : Nat)) : Int) == v.id) = true := by assumption
          rw [joinV_old h hlt (by simpa using he)]
          exact ⟨_, cap, rfl, HN.out, below_drewN (below_drewN HB.out _) _⟩
        · have he : ((((os[k]'hlt : Nat)) : Int) == v.id) = false := by assumption
          go_roundw
          case rel =>
            refine ⟨k + 1, by omega, by go_num, fun j hj => ?_, _, rfl⟩
            rcases Nat.lt_or_ge j k with hj' | hj'
            · exact HM.out j hj'
            · have : j = k := by omega
              subst this
              rw [List.getD_eq_getElem?_getD, List.getElem?_eq_getElem hlt]
              simpa using he
          case measure => simp [intOf]; omega
      · have hjn := Lib.hid (joinV_new h fun j hj => HNO.out j (by omega))
        have hid_ := Lib.hid (among_id h)
        go_wp2_with fail
        have xq : ∀ (j : Nat) (o : Obj), ((w1.drewN j).alloc o).cell? ⟨w.heap.size, 4, none⟩ = some (.int .i64 v.id) := fun j o => (World.cell?_alloc_past _ _ _ (show w.heap.size < w1.heap.size by omega)).trans x5
        have xr : ∀ (j : Nat), (w1.drewN j).cell? ⟨w.heap.size, 4, none⟩ = some (.int .i64 v.id) := fun j => x5
        go_region_law (first
          | (refine step_append_nats rfl (.tmp 27) (.tmp 28) 27 rfl Try.underlying27 hi hz0 hz1 hz2 (w.heap.size + 1) _ 0 [] rfl (by first | exact own_empty _ _ _ (by simp) (by simp <;> omega) | exact (own_empty _ _ _ (by simp) (by simp <;> omega)).alloc _) A cap os rfl (by first | exact HN.out.alloc _ | exact (HN.out.alloc _).alloc _) (by unfold maxLen; omega) (by omega) (by simp; omega) ?_; intro v1 w3 hown1 hg1 hl1; have bW := Below.grown (B := w1.heap.size) (a := w1) (by first | exact (below_drewN (Below.refl _ _) _).alloc (by simp) _ | exact ((below_drewN (Below.refl _ _) _).alloc (by simp) _).alloc (by simp) _) hg1 (by simp; try omega) (fun j hj => by cases hj; simp; try omega); have y5 := (bW.cell (p := ⟨w.heap.size, 4, none⟩) (by simp; omega)).trans x5; have z3 := bW.size)
          | (refine step_append_nats rfl (.tmp 29) (.tmp 32) 27 rfl Try.underlying27 hi hz0 hz1 hz2 (w.heap.size + 1) _ _ _ rfl (by first | exact hown1 | exact hown1.alloc _) _ 1 [among n v] rfl (by first | (refine natsAt_one _ hid_.out _ ?_; simp; done) | exact natsAt_grown1 (w1.drewN (m + 1)) hid_.out hg1 | exact natsAt_grown2 (w1.drewN (m + 1)) hid_.out hg1) (by unfold maxLen; simp; omega) (by simp; omega) (by first | (simp; omega) | omega) ?_; intro v2 w4 hown2 hg2 hl2))
        all_goals
          have hb4 : Below w.heap.size w w4 := by
            first
              | exact (HB.out.trans (bW.mono (by omega))).grown hg2 (by omega) (fun j hj => by have := (hown1.lt j hj).1; omega)
              | exact ((HB.out.trans (bW.mono (by omega))).alloc (by omega) _).grown hg2 (by simp; omega) (fun j hj => by have := (hown1.lt j hj).1; omega)
          have hp := Lib.hid (JoinPost.of_own hown2 (os := joinV n os v) (by rw [hjn.out]; simp) (by rw [hjn.out, natCells_append]; simp) hb4)
          clear hown1 hg1 hl1 hown2 hg2 hl2 hb4 bW
          go_wp2
          go_ret
          exact hp.out

end Go.Proofs.Ytkkcacpcicnihaa
