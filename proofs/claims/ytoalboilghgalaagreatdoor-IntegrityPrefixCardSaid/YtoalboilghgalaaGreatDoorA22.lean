/- Lemmas for this claim, in parts: State, Heap1. -/
import Derived.Test.YtoalboilghgalaaGreatDoorA20
/- A heap with one object: how it lies in memory, and what calls keep of the rest. -/
namespace Go.Proofs.YtoalboilghgalaaGreatDoor
open Go.RowKit
open Go.Proofs.Dc (V Ds Ky)

/-- a block of the heap's own, by its kind -/
def Mine : Obj → Bool
  | .cells _ t _ => t == 102 || t == 146 || t == 138 || t == 229 || t == 245
  | .map _ _ => true
  | _ => false

/-- w' is w below n0, and but for the heap's own blocks -/
structure Keeps (n0 : Nat) (w w' : World) : Prop where
  below : Below n0 w w'
  free : ∀ (k : Nat) (o : Obj), w.heap[k]? = some o → Mine o = false → w'.heap[k]? = some o

theorem Keeps.refl (n0 : Nat) (w : World) : Keeps n0 w w := ⟨Below.refl _ _, fun _ _ h _ => h⟩
theorem Keeps.trans {n0 : Nat} {a b c : World} (h : Keeps n0 a b) (k : Keeps n0 b c) : Keeps n0 a c :=
  ⟨h.below.trans k.below, fun i o hi ho => k.free i o (h.free i o hi ho) ho⟩
theorem Keeps.of_below {n0 : Nat} {w w' : World} (h : Below w.heap.size w w') (hn : n0 ≤ w.heap.size) : Keeps n0 w w' :=
  ⟨h.mono hn, fun k _ hk _ => (h.block k (Array.getElem?_eq_some_iff.1 hk).1).trans hk⟩
theorem Keeps.of_only {n0 : Nat} {S : List Nat} {w w' : World} (h : Only S w w') (hS : ∀ b, b ∈ S → n0 ≤ b ∧ (w.heap.size ≤ b ∨ ∃ o, w.heap[b]? = some o ∧ Mine o = true)) (hn : n0 ≤ w.heap.size) : Keeps n0 w w' :=
  ⟨h.below n0 hn (fun b hb => (hS b hb).1), fun k o hk ho => (h.block k (Array.getElem?_eq_some_iff.1 hk).1 fun hm => by
    rcases (hS k hm).2 with h2 | ⟨o', h2, h3⟩
    · have := (Array.getElem?_eq_some_iff.1 hk).1; omega
    · rw [hk] at h2; cases h2; rw [h3] at ho; cases ho).trans hk⟩
theorem Keeps.size {n0 : Nat} {w w' : World} (h : Keeps n0 w w') : w.heap.size ≤ w'.heap.size := h.below.size
theorem Keeps.drew {n0 : Nat} {w w' : World} (h : Keeps n0 w w') : Keeps n0 w w'.drew := ⟨h.below.drew, h.free⟩
theorem Blk.keeps {n0 : Nat} {W W' : World} {b : Nat} {C : Array Value} {t : TypeId} (h : Blk W b C t) (hk : Keeps n0 W W') (ht : Mine (.cells C t) = false) : Blk W' b C t := hk.free _ _ h ht

/-- what an object is besides its properties -/
structure Kd where
  cls : Int
  proto : V
  mv : Value
  sv : Value

def vN : V := ⟨2, false, 0, ByteArray.empty, 0⟩
/-- an ordinary object without a prototype -/
def kO : Kd := ⟨1, vN, .iface 105 (.agg #[]), .nilIface⟩

def oArr (kd : Kd) (ext : Bool) (tp : Option Addr) : Array Value :=
  #[.int .i64 kd.cls, .int .i64 kd.proto.kind, .bool kd.proto.bool, .float .f64 kd.proto.num, .string kd.proto.str, .int .i64 kd.proto.id, .bool ext, kd.mv, kd.sv, .pointer tp]
theorem Blk.cellO {W : World} {b : Nat} {kd : Kd} {ext : Bool} {tp : Option Addr} (h : Blk W b (oArr kd ext tp) 146) : ∀ j, W.cell? ⟨b, j, none⟩ =
    #[.int .i64 kd.cls, .int .i64 kd.proto.kind, .bool kd.proto.bool, .float .f64 kd.proto.num, .string kd.proto.str, .int .i64 kd.proto.id, .bool ext, kd.mv, kd.sv, .pointer tp][j]? := h.cell
theorem set_ext (kd : Kd) (ext x : Bool) (tp : Option Addr) : (oArr kd ext tp).setIfInBounds 6 (.bool x) = oArr kd x tp := rfl
theorem set_tab (kd : Kd) (ext : Bool) (tp tq : Option Addr) : (oArr kd ext tp).setIfInBounds 9 (.pointer tq) = oArr kd ext tq := rfl

/-- the object's table, or none -/
def TabAt (n0 : Nat) (W : World) (tp : Option Addr) (L : List (Ky × Ds)) : Prop :=
  (tp = none ∧ L = []) ∨ ∃ tb mb ev, tp = some ⟨tb, 0, none⟩ ∧ n0 ≤ tb ∧ n0 ≤ mb ∧ TabSt n0 W tb ev mb L

/-- the heap hb with the one object ob -/
structure StX (n0 : Nat) (W : World) (hb : Nat) (ov : Value) (ob : Nat) (tp : Option Addr) (cap fuel deep : Int) (kd : Kd) (ext : Bool) (L : List (Ky × Ds)) : Prop where
  h : Blk W hb (hArr cap fuel 10 deep ov) 102
  row : W.ownsRow n0 138 1 ov 1 [.pointer (some ⟨ob, 0, none⟩)]
  o : Blk W ob (oArr kd ext tp) 146
  tab : TabAt n0 W tp L
  hn : n0 ≤ hb
  on : n0 ≤ ob
  tabs : Tabs W
  tn : Tryz.lays197_ren.g 3 < n0 ∧ Tryz.lays197_ren.g 4 < n0
  sz : n0 ≤ W.heap.size

def St (n0 : Nat) (W : World) (hb : Nat) (cap fuel deep : Int) (kd : Kd) (ext : Bool) (L : List (Ky × Ds)) : Prop :=
  ∃ ov ob tp, StX n0 W hb ov ob tp cap fuel deep kd ext L

theorem TabSt.only {base : Nat} {W W' : World} {tb mb : Nat} {ev : Value} {L : List (Ky × Ds)} {S : List Nat} (h : TabSt base W tb ev mb L) (ho : Only S W W') (h1 : tb ∉ S) (h2 : mb ∉ S) (h3 : ∀ g, ev.ownBlock = some g → g ∉ S) : TabSt base W' tb ev mb L :=
  ⟨h.tab.only ho h1, ownsRow_only h.row ho h3, h.map.keep (ho.block mb h.map.lt h2), h.len⟩
theorem TabSt.below {base : Nat} {W W' : World} {tb mb : Nat} {ev : Value} {L : List (Ky × Ds)} (h : TabSt base W tb ev mb L) (hb : Below W.heap.size W W') : TabSt base W' tb ev mb L :=
  h.only (S := []) (Only.of_below hb) (by simp) (by simp) (by simp)
theorem TabAt.only {n0 : Nat} {W W' : World} {tp : Option Addr} {L : List (Ky × Ds)} {S : List Nat} (h : TabAt n0 W tp L) (ho : Only S W W')
    (hS : ∀ b, b ∈ S → ∃ C t, Blk W b C t ∧ t ≠ 229 ∧ t ≠ 245) : TabAt n0 W' tp L := by
  rcases h with h | ⟨tb, mb, ev, h1, h2, h3, h4⟩
  · exact .inl h
  · refine .inr ⟨tb, mb, ev, h1, h2, h3, h4.only ho (fun hm => ?_) (fun hm => ?_) (fun g hg hm => ?_)⟩
    · obtain ⟨C, t, hb, n1, _⟩ := hS _ hm
      have := h4.tab; unfold Blk at this hb; rw [hb] at this; simp only [Option.some.injEq, Obj.cells.injEq] at this
      exact n1 this.2.1
    · obtain ⟨C, t, hb, _⟩ := hS _ hm
      exact h4.map.ne hb rfl
    · obtain ⟨C, t, hb, _, n2⟩ := hS _ hm
      exact ownsRow_ne h4.row hb (Ne.symm n2) g hg rfl

theorem Blk.ne {W : World} {b c : Nat} {C D : Array Value} {t u : TypeId} (h : Blk W b C t) (k : Blk W c D u) (hn : t ≠ u) : b ≠ c := by
  rintro rfl
  unfold Blk at h k
  rw [h] at k
  simp only [Option.some.injEq, Obj.cells.injEq] at k
  exact hn k.2.1

theorem StX.below {n0 : Nat} {W W' : World} {hb : Nat} {ov : Value} {ob : Nat} {tp : Option Addr} {cap fuel deep : Int} {kd : Kd} {ext : Bool} {L : List (Ky × Ds)} (s : StX n0 W hb ov ob tp cap fuel deep kd ext L) (h : Below W.heap.size W W') : StX n0 W' hb ov ob tp cap fuel deep kd ext L :=
  ⟨s.h.next h, ownsRow_only s.row (Only.of_below (S := []) h) (by simp), s.o.next h, s.tab.only (Only.of_below (S := []) h) (by simp), s.hn, s.on, s.tabs.below h, s.tn, Nat.le_trans s.sz h.size⟩
theorem St.below {n0 : Nat} {W W' : World} {hb : Nat} {cap fuel deep : Int} {kd : Kd} {ext : Bool} {L : List (Ky × Ds)} (s : St n0 W hb cap fuel deep kd ext L) (h : Below W.heap.size W W') : St n0 W' hb cap fuel deep kd ext L := by
  obtain ⟨ov, ob, tp, s⟩ := s; exact ⟨ov, ob, tp, s.below h⟩
theorem St.keeps {n0 : Nat} {W W' : World} {hb : Nat} {cap fuel deep : Int} {kd : Kd} {ext : Bool} {L : List (Ky × Ds)} (s : St n0 W hb cap fuel deep kd ext L) (h : Below W.heap.size W W') : Keeps n0 W W' := by
  obtain ⟨ov, ob, tp, s⟩ := s; exact Keeps.of_below h s.sz
theorem St.drew {n0 : Nat} {W : World} {hb : Nat} {cap fuel deep : Int} {kd : Kd} {ext : Bool} {L : List (Ky × Ds)} (s : St n0 W hb cap fuel deep kd ext L) : St n0 W.drew hb cap fuel deep kd ext L := s.below (Below.refl _ _).drew

/-- the heap's own words are written -/
theorem StX.heap {n0 : Nat} {W W' : World} {hb : Nat} {ov : Value} {ob : Nat} {tp : Option Addr} {cap fuel deep fuel' deep' : Int} {kd : Kd} {ext : Bool} {L : List (Ky × Ds)} (s : StX n0 W hb ov ob tp cap fuel deep kd ext L)
    (h : Blk W' hb (hArr cap fuel' 10 deep' ov) 102) (ho : Only [hb] W W') : StX n0 W' hb ov ob tp cap fuel' deep' kd ext L ∧ Keeps n0 W W' := by
  have h3 : Tryz.lays197_ren.g 3 ∉ [hb] := by simp; have := s.tn; have := s.hn; omega
  have h4 : Tryz.lays197_ren.g 4 ∉ [hb] := by simp; have := s.tn; have := s.hn; omega
  refine ⟨⟨h, ownsRow_only s.row ho (fun g hg => by simpa using ownsRow_ne s.row s.h (by decide) g hg), s.o.only ho (by simpa using s.o.ne s.h (by decide)), s.tab.only ho (fun b hb' => ?_), s.hn, s.on, s.tabs.only ho h3 h4, s.tn, Nat.le_trans s.sz ho.size⟩, Keeps.of_only ho (fun b hb' => ?_) s.sz⟩
  · obtain rfl : b = hb := by simpa using hb'
    exact ⟨_, _, s.h, by decide, by decide⟩
  · obtain rfl : b = hb := by simpa using hb'
    exact ⟨s.hn, .inr ⟨_, s.h, rfl⟩⟩

/-- the object's own words are written -/
theorem StX.obj {n0 : Nat} {W W' : World} {hb : Nat} {ov : Value} {ob : Nat} {tp : Option Addr} {cap fuel deep : Int} {kd : Kd} {ext ext' : Bool} {L : List (Ky × Ds)} (s : StX n0 W hb ov ob tp cap fuel deep kd ext L)
    (h : Blk W' ob (oArr kd ext' tp) 146) (ho : Only [ob] W W') : StX n0 W' hb ov ob tp cap fuel deep kd ext' L ∧ Keeps n0 W W' := by
  have h3 : Tryz.lays197_ren.g 3 ∉ [ob] := by simp; have := s.tn; have := s.on; omega
  have h4 : Tryz.lays197_ren.g 4 ∉ [ob] := by simp; have := s.tn; have := s.on; omega
  refine ⟨⟨s.h.only ho (by simpa using s.h.ne s.o (by decide)), ownsRow_only s.row ho (fun g hg => by simpa using ownsRow_ne s.row s.o (by decide) g hg), h, s.tab.only ho (fun b hb' => ?_), s.hn, s.on, s.tabs.only ho h3 h4, s.tn, Nat.le_trans s.sz ho.size⟩, Keeps.of_only ho (fun b hb' => ?_) s.sz⟩
  · obtain rfl : b = ob := by simpa using hb'
    exact ⟨_, _, s.o, by decide, by decide⟩
  · obtain rfl : b = ob := by simpa using hb'
    exact ⟨s.on, .inr ⟨_, s.o, rfl⟩⟩

/-- where a row lies -/
theorem ownsRow_at {W : World} {base : Nat} {e : TypeId} {size n : Nat} {v : Value} {xs : List Value} (h : W.ownsRow base e size v n xs) : ∀ g, v.ownBlock = some g → base ≤ g ∧ ∃ C, Blk W g C e := by
  intro g hg
  obtain ⟨_, h2⟩ := h
  rcases h2 with ⟨rfl, _⟩ | ⟨g', cap, cur, rfl, hb, hh, _⟩
  · cases hg
  · obtain rfl : g' = g := by simpa [Value.ownBlock] using hg
    exact ⟨hb, _, hh⟩

/-- the table is written -/
theorem StX.table {n0 : Nat} {W W' : World} {hb : Nat} {ov : Value} {ob : Nat} {cap fuel deep : Int} {kd : Kd} {ext : Bool} {L L' : List (Ky × Ds)} {tb mb mb' : Nat} {ev ev' : Value} (s : StX n0 W hb ov ob (some ⟨tb, 0, none⟩) cap fuel deep kd ext L)
    (ht : TabSt n0 W tb ev mb L) (hl : n0 ≤ tb ∧ n0 ≤ mb) (hl' : n0 ≤ mb') (h : TabSt n0 W' tb ev' mb' L') (ho : Only (tb :: mb :: ev.ownBlock.toList) W W') : StX n0 W' hb ov ob (some ⟨tb, 0, none⟩) cap fuel deep kd ext L' ∧ Keeps n0 W W' := by
  have hev : ∀ g, ev.ownBlock = some g → n0 ≤ g ∧ ∃ C, Blk W g C 245 := ownsRow_at ht.row
  have hbl : ∀ b, b ∈ tb :: mb :: ev.ownBlock.toList → n0 ≤ b ∧ ∃ o, W.heap[b]? = some o ∧ Mine o = true ∧ ∀ C t, Blk W b C t → t = 229 ∨ t = 245 := by
    intro b hb
    simp only [List.mem_cons, Option.mem_toList] at hb
    rcases hb with rfl | rfl | hb
    · refine ⟨hl.1, _, ht.tab, rfl, fun C t h => .inl ?_⟩
      have := ht.tab; unfold Blk at this h; rw [h] at this; simp only [Option.some.injEq, Obj.cells.injEq] at this; exact this.2.1
    · obtain ⟨es, clock, hm, _⟩ := ht.map
      refine ⟨hl.2, _, hm, rfl, fun C t h => ?_⟩
      unfold Blk at h; rw [h] at hm; cases hm
    · obtain ⟨h1, C, h2⟩ := hev b hb
      refine ⟨h1, _, h2, rfl, fun D t h => .inr ?_⟩
      unfold Blk at h2 h; rw [h] at h2; simp only [Option.some.injEq, Obj.cells.injEq] at h2; exact h2.2.1
  have hnot : ∀ b C t, Blk W b C t → t ≠ 229 → t ≠ 245 → b ∉ tb :: mb :: ev.ownBlock.toList := fun b C t h n1 n2 hm => by
    obtain ⟨_, _, _, _, h5⟩ := hbl b hm
    rcases h5 C t h with h | h
    · exact n1 h
    · exact n2 h
  have hlow : ∀ b, b < n0 → b ∉ tb :: mb :: ev.ownBlock.toList := fun b h hm => by have := (hbl b hm).1; omega
  refine ⟨⟨s.h.only ho (hnot _ _ _ s.h (by decide) (by decide)), ownsRow_only s.row ho (fun g hg => ?_), s.o.only ho (hnot _ _ _ s.o (by decide) (by decide)), .inr ⟨tb, mb', ev', rfl, hl.1, hl', h⟩, s.hn, s.on, s.tabs.only ho (hlow _ s.tn.1) (hlow _ s.tn.2), s.tn, Nat.le_trans s.sz ho.size⟩,
    Keeps.of_only ho (fun b hb' => ⟨(hbl b hb').1, .inr (by obtain ⟨_, o, h1, h2, _⟩ := hbl b hb'; exact ⟨o, h1, h2⟩)⟩) s.sz⟩
  obtain ⟨_, C, hC⟩ := ownsRow_at s.row g hg
  exact hnot _ _ _ hC (by decide) (by decide)

/-- where the objects' row lies -/
theorem StX.objs {n0 : Nat} {W : World} {hb : Nat} {ov : Value} {ob : Nat} {tp : Option Addr} {cap fuel deep : Int} {kd : Kd} {ext : Bool} {L : List (Ky × Ds)} (s : StX n0 W hb ov ob tp cap fuel deep kd ext L) :
    ∃ g c, ov = .slice (some ⟨g, 0, none⟩) 1 c ∧ W.cell? ⟨g, 0, none⟩ = some (.pointer (some ⟨ob, 0, none⟩)) := by
  obtain ⟨h1, h2⟩ := s.row
  rcases h2 with ⟨_, h2⟩ | ⟨g, cap, cur, hv, hg, hh, hn, hc, hs, ht⟩
  · cases h2
  · refine ⟨g, cap, hv, ?_⟩
    rw [cell_of_row _ _ _ _ _ _ hh]
    have h0 : ([Value.pointer (some ⟨ob, 0, none⟩)] : List Value)[0]? = some (.pointer (some ⟨ob, 0, none⟩)) := rfl
    rw [← ht, List.getElem?_take] at h0
    simpa using h0

end Go.Proofs.YtoalboilghgalaaGreatDoor

/- The heap: has, at, lost, Check, base, Room, Does, Open, Shut, Proto, Class, Fuel, Refuel. -/
namespace Go.Proofs.YtoalboilghgalaaGreatDoor
open Go.RowKit
open Go.Proofs.Dc (V Ds Ky)
attribute [local go_sem] run_store_float

set_option maxRecDepth 100000 in
set_option maxHeartbeats 4000000 in
theorem has_one {n0 : Nat} {w : World} {hb : Nat} {ov : Value} {ob : Nat} {tp : Option Addr} {cap fuel deep : Int} {kd : Kd} {ext : Bool} {L : List (Ky × Ds)} (s : StX n0 w hb ov ob tp cap fuel deep kd ext L) : Calls Tryz.prog 83 #[.pointer (some ⟨hb, 0, none⟩), .int .i64 1] w fun e w' => e = .returned (.bool true) ∧ w = w' := by
  obtain ⟨g, c, rfl, hg⟩ := s.objs
  have hc := s.h.cellH
  have ho := s.o.cellO
  clear s
  go_enter Tryz.func83, Tryz.ntmps83
  go_wp2
  go_ret
  exact ⟨rfl, rfl⟩
set_option maxRecDepth 100000 in
set_option maxHeartbeats 4000000 in
theorem has_not {n0 : Nat} {w : World} {hb : Nat} {ov : Value} {ob : Nat} {tp : Option Addr} {cap fuel deep : Int} {kd : Kd} {ext : Bool} {L : List (Ky × Ds)} (s : StX n0 w hb ov ob tp cap fuel deep kd ext L) (o : Int) (hne : o ≠ 1) : Calls Tryz.prog 83 #[.pointer (some ⟨hb, 0, none⟩), .int .i64 o] w fun e w' => e = .returned (.bool false) ∧ w = w' := by
  obtain ⟨g, c, rfl, hg⟩ := s.objs
  have hc := s.h.cellH
  have ho := s.o.cellO
  clear s
  by_cases h1 : 1 ≤ o
  · have h2 : decide (o ≤ 1) = false := by simp; omega
    go_enter Tryz.func83, Tryz.ntmps83
    go_wp2
    go_ret
    exact ⟨rfl, rfl⟩
  · go_enter Tryz.func83, Tryz.ntmps83
    go_wp2
    go_ret
    exact ⟨rfl, rfl⟩
set_option maxRecDepth 100000 in
set_option maxHeartbeats 4000000 in
theorem at_any {n0 : Nat} {w : World} {hb : Nat} {ov : Value} {ob : Nat} {tp : Option Addr} {cap fuel deep : Int} {kd : Kd} {ext : Bool} {L : List (Ky × Ds)} (s : StX n0 w hb ov ob tp cap fuel deep kd ext L) : Calls Tryz.prog 84 #[.pointer (some ⟨hb, 0, none⟩), .int .i64 1] w fun e w' => e = .returned (.pointer (some ⟨ob, 0, none⟩)) ∧ w = w' := by
  obtain ⟨g, c, rfl, hg⟩ := s.objs
  have hc := s.h.cellH
  have ho := s.o.cellO
  clear s
  go_enter Tryz.func84, Tryz.ntmps84
  go_wp2
  go_ret
  exact ⟨rfl, rfl⟩
set_option maxRecDepth 100000 in
set_option maxHeartbeats 4000000 in
theorem room_any {n0 : Nat} {w : World} {hb : Nat} {ov : Value} {ob : Nat} {tp : Option Addr} {cap fuel deep : Int} {kd : Kd} {ext : Bool} {L : List (Ky × Ds)} (s : StX n0 w hb ov ob tp cap fuel deep kd ext L) : Calls Tryz.prog 101 #[.pointer (some ⟨hb, 0, none⟩)] w fun e w' => e = .returned (.int .i64 (if cap ≤ 1 then 3 else 0)) ∧ Below w.heap.size w w' := by
  obtain ⟨g, c, rfl, hg⟩ := s.objs
  have hc := s.h.cellH
  have ho := s.o.cellO
  clear s
  by_cases h1 : cap ≤ 1
  · rw [if_pos h1]
    go_enter Tryz.func101, Tryz.ntmps101
    go_wp2
    go_region
    go_wp2
    go_ret
    exact ⟨rfl, (Below.refl _ _).drew⟩
  · rw [if_neg h1]
    have h1 : 1 < cap := by omega
    go_enter Tryz.func101, Tryz.ntmps101
    go_wp2
    go_region
    go_wp2
    go_ret
    exact ⟨rfl, (Below.refl _ _).drew⟩
set_option maxRecDepth 100000 in
set_option maxHeartbeats 4000000 in
theorem does_any {n0 : Nat} {w : World} {hb : Nat} {ov : Value} {ob : Nat} {tp : Option Addr} {cap fuel deep : Int} {kd : Kd} {ext : Bool} {L : List (Ky × Ds)} (s : StX n0 w hb ov ob tp cap fuel deep kd ext L) : Calls Tryz.prog 108 #[.pointer (some ⟨hb, 0, none⟩), .int .i64 1] w fun e w' => e = .returned kd.mv ∧ w = w' := by
  obtain ⟨g, c, rfl, hg⟩ := s.objs
  have hc := s.h.cellH
  have ho := s.o.cellO
  have cA := at_any s
  clear s
  go_enter Tryz.func108, Tryz.ntmps108
  go_wp2_with (go_at_call 84; refine cA.mono ?_; rintro e w' ⟨rfl, rfl⟩)
  go_ret
  exact ⟨rfl, rfl⟩
set_option maxRecDepth 100000 in
set_option maxHeartbeats 4000000 in
theorem open_any {n0 : Nat} {w : World} {hb : Nat} {ov : Value} {ob : Nat} {tp : Option Addr} {cap fuel deep : Int} {kd : Kd} {ext : Bool} {L : List (Ky × Ds)} (s : StX n0 w hb ov ob tp cap fuel deep kd ext L) : Calls Tryz.prog 221 #[.pointer (some ⟨hb, 0, none⟩), .int .i64 1] w fun e w' => e = .returned (.bool ext) ∧ w = w' := by
  obtain ⟨g, c, rfl, hg⟩ := s.objs
  have hc := s.h.cellH
  have ho := s.o.cellO
  have cA := at_any s
  clear s
  go_enter Tryz.func221, Tryz.ntmps221
  go_wp2_with (go_at_call 84; refine cA.mono ?_; rintro e w' ⟨rfl, rfl⟩)
  go_ret
  exact ⟨rfl, rfl⟩
set_option maxRecDepth 100000 in
set_option maxHeartbeats 4000000 in
theorem class_any {n0 : Nat} {w : World} {hb : Nat} {ov : Value} {ob : Nat} {tp : Option Addr} {cap fuel deep : Int} {kd : Kd} {ext : Bool} {L : List (Ky × Ds)} (s : StX n0 w hb ov ob tp cap fuel deep kd ext L) : Calls Tryz.prog 71 #[.pointer (some ⟨hb, 0, none⟩), .int .i64 1] w fun e w' => e = .returned (.tuple #[.int .i64 kd.cls, .int .i64 0]) ∧ w = w' := by
  obtain ⟨g, c, rfl, hg⟩ := s.objs
  have hc := s.h.cellH
  have ho := s.o.cellO
  have cA := at_any s
  have cH := has_one s
  clear s
  go_enter Tryz.func71, Tryz.ntmps71
  go_wp2_with (first | (go_at_call 84; refine cA.mono ?_; rintro e w' ⟨rfl, rfl⟩) | (go_at_call 83; refine cH.mono ?_; rintro e w' ⟨rfl, rfl⟩))
  go_ret2
  exact ⟨rfl, rfl⟩
set_option maxRecDepth 100000 in
set_option maxHeartbeats 4000000 in
theorem shut_any {n0 : Nat} {w : World} {hb : Nat} {ov : Value} {ob : Nat} {tp : Option Addr} {cap fuel deep : Int} {kd : Kd} {ext : Bool} {L : List (Ky × Ds)} (s : StX n0 w hb ov ob tp cap fuel deep kd ext L) : Calls Tryz.prog 91 #[.pointer (some ⟨hb, 0, none⟩), .int .i64 1] w fun e w' => e = .returned (.tuple #[]) ∧ StX n0 w' hb ov ob tp cap fuel deep kd false L ∧ Keeps n0 w w' := by
  obtain ⟨g, c, rfl, hg⟩ := s.objs
  have hc := s.h.cellH
  have ho := s.o.cellO
  have cA := at_any s
  have hf := s.o.frozen
  have S := Lib.hid s
  clear s
  go_enter Tryz.func91, Tryz.ntmps91
  go_wp2_with (go_at_call 84; refine cA.mono ?_; rintro e w' ⟨rfl, rfl⟩)
  go_end0
  have h := only_setCell (o := 6) (v := .bool false) S.out.o
  rw [set_ext] at h
  exact ⟨rfl, S.out.obj h.1 h.2⟩
set_option maxRecDepth 100000 in
set_option maxHeartbeats 4000000 in
theorem fuel_any {n0 : Nat} {w : World} {hb : Nat} {ov : Value} {ob : Nat} {tp : Option Addr} {cap fuel deep : Int} {kd : Kd} {ext : Bool} {L : List (Ky × Ds)} (s : StX n0 w hb ov ob tp cap fuel deep kd ext L) : Calls Tryz.prog 75 #[.pointer (some ⟨hb, 0, none⟩)] w fun e w' => e = .returned (.int .i64 fuel) ∧ w = w' := by
  obtain ⟨g, c, rfl, hg⟩ := s.objs
  have hc := s.h.cellH
  have ho := s.o.cellO
  clear s
  go_enter Tryz.func75, Tryz.ntmps75
  go_wp2
  go_ret
  exact ⟨rfl, rfl⟩
set_option maxRecDepth 100000 in
set_option maxHeartbeats 4000000 in
theorem refuel_any {n0 : Nat} {w : World} {hb : Nat} {ov : Value} {ob : Nat} {tp : Option Addr} {cap fuel deep : Int} {kd : Kd} {ext : Bool} {L : List (Ky × Ds)} (s : StX n0 w hb ov ob tp cap fuel deep kd ext L) (x : Int) (hx : 0 ≤ x) : Calls Tryz.prog 32 #[.pointer (some ⟨hb, 0, none⟩), .int .i64 x] w fun e w' => e = .returned (.int .i64 0) ∧ StX n0 w' hb ov ob tp cap x deep kd ext L ∧ Keeps n0 w w' := by
  obtain ⟨g, c, rfl, hg⟩ := s.objs
  have hc := s.h.cellH
  have ho := s.o.cellO
  have hf := s.h.frozen
  have S := Lib.hid s
  clear s
  go_enter Tryz.func32, Tryz.ntmps32
  go_wp2
  go_ret
  have h := only_setCell (o := 1) (v := .int .i64 x) S.out.h
  rw [set_fuel] at h
  exact ⟨rfl, S.out.heap h.1 h.2⟩

end Go.Proofs.YtoalboilghgalaaGreatDoor
