/- Lemmas for this claim, in parts: Props, State, Heap1. -/
import Derived.Test.YtoalboilghgalaaGreatDoorB14
import Derived.Test.YtoalboilghgalaaGreatDoorB15
set_option maxRecDepth 100000
set_option maxHeartbeats 4000000
set_option linter.unusedVariables false
set_option linter.unusedSimpArgs false
/- Properties by key, and what fixing them makes of them: plain Lean. -/
namespace Go.Proofs.YtoalboilghgalaaGreatDoor
open Go.RowKit
open Go.Proofs.Dc (V Ds Ky)

theorem keq_refl (a : Ky) : keq a a = true := by simp [keq]
theorem keq_symm {a b : Ky} (h : keq a b = true) : keq b a = true := by
  simp only [keq, Bool.and_eq_true, beq_iff_eq] at h ⊢; exact ⟨h.1.symm, h.2.symm⟩
theorem keq_trans {a b c : Ky} (h : keq a b = true) (h' : keq b c = true) : keq a c = true := by
  simp only [keq, Bool.and_eq_true, beq_iff_eq] at h h' ⊢; exact ⟨h.1.trans h'.1, h.2.trans h'.2⟩

/-- a key's descriptor -/
def getL : List (Ky × Ds) → Ky → Option Ds
  | [], _ => none
  | a :: r, k => if keq k a.1 then some a.2 else getL r k
/-- .. is laid -/
def putL : List (Ky × Ds) → Ky → Ds → List (Ky × Ds)
  | [], k, d => [(k, d)]
  | a :: r, k, d => if keq k a.1 then (a.1, d) :: r else a :: putL r k d

theorem getL_cons (a : Ky × Ds) (r : List (Ky × Ds)) (k : Ky) : getL (a :: r) k = if keq k a.1 = true then some a.2 else getL r k := rfl
theorem putL_cons (a : Ky × Ds) (r : List (Ky × Ds)) (k : Ky) (d : Ds) : putL (a :: r) k d = if keq k a.1 = true then (a.1, d) :: r else a :: putL r k d := rfl
theorem keyAt_cons (a : Ky) (r : List Ky) (k : Ky) : keyAt (a :: r) k = if keq k a = true then some 0 else (keyAt r k).map (· + 1) := rfl

theorem getL_keyAt : ∀ (L : List (Ky × Ds)) (k : Ky), getL L k = (keyAt (L.map (·.1)) k).bind fun i => (L[i]?).map (·.2)
  | [], _ => rfl
  | a :: r, k => by
    rw [getL_cons, List.map_cons, keyAt_cons, getL_keyAt r k]
    generalize keq k a.1 = b
    cases b
    · cases keyAt (r.map (·.1)) k <;> simp
    · simp
theorem putL_new : ∀ (L : List (Ky × Ds)) (k : Ky) (d : Ds), keyAt (L.map (·.1)) k = none → putL L k d = L ++ [(k, d)]
  | [], _, _, _ => rfl
  | a :: r, k, d, h => by
    rw [List.map_cons, keyAt_cons] at h
    rw [putL_cons]
    generalize keq k a.1 = b at h ⊢
    cases b
    · simp only [Bool.false_eq_true, if_false, Option.map_eq_none_iff] at h ⊢
      rw [putL_new r k d h]; rfl
    · simp at h
theorem putL_old : ∀ (L : List (Ky × Ds)) (k : Ky) (d : Ds) (i : Nat) (hi : i < L.length), keyAt (L.map (·.1)) k = some i → putL L k d = L.set i (L[i].1, d)
  | [], _, _, _, hi, _ => absurd hi (Nat.not_lt_zero _)
  | a :: r, k, d, i, hi, h => by
    rw [List.map_cons, keyAt_cons] at h
    rw [putL_cons]
    generalize keq k a.1 = b at h ⊢
    cases b
    · simp only [Bool.false_eq_true, if_false, Option.map_eq_some_iff] at h ⊢
      obtain ⟨n, hn, rfl⟩ := h
      rw [putL_old r k d n (by simpa using hi) hn]
      simp
    · simp only [if_true, Option.some.injEq] at h ⊢
      subst h
      simp
theorem keyAt_none_get {L : List (Ky × Ds)} {k : Ky} : keyAt (L.map (·.1)) k = none ↔ getL L k = none := by
  rw [getL_keyAt]
  cases h : keyAt (L.map (·.1)) k with
  | none => simp
  | some i => have := keyAt_lt h; simp at this; simp [this]

theorem get_put : ∀ (L : List (Ky × Ds)) (k k' : Ky) (d : Ds), getL (putL L k d) k' = if keq k' k = true then some d else getL L k'
  | [], _, _, _ => rfl
  | a :: r, k, k', d => by
    rw [putL_cons, getL_cons]
    by_cases h : keq k a.1 = true
    · rw [if_pos h, getL_cons]
      by_cases h2 : keq k' k = true
      · rw [if_pos h2, if_pos (keq_trans h2 h)]
      · have h3 : ¬ keq k' a.1 = true := fun h3 => h2 (keq_trans h3 (keq_symm h))
        rw [if_neg h2, if_neg h3, if_neg h3]
    · rw [if_neg h, getL_cons, get_put r k k' d]
      by_cases h2 : keq k' k = true
      · have h3 : ¬ keq k' a.1 = true := fun h3 => h (keq_trans (keq_symm h2) h3)
        rw [if_neg h3, if_pos h2, if_pos h2]
      · rw [if_neg h2, if_neg h2]
theorem keys_put : ∀ (L : List (Ky × Ds)) (k : Ky) (d : Ds), getL L k ≠ none → (putL L k d).map (·.1) = L.map (·.1)
  | [], _, _, h => absurd rfl h
  | a :: r, k, d, h => by
    rw [putL_cons]
    rw [getL_cons] at h
    by_cases h1 : keq k a.1 = true
    · rw [if_pos h1]; rfl
    · rw [if_neg h1] at h ⊢
      rw [List.map_cons, keys_put r k d h, List.map_cons]
theorem get_of_mem : ∀ {L : List (Ky × Ds)} {k : Ky}, k ∈ L.map (·.1) → ∃ d, getL L k = some d
  | [], _, h => by cases h
  | a :: r, k, h => by
    rw [getL_cons]
    by_cases h1 : keq k a.1 = true
    · exact ⟨_, if_pos h1⟩
    · rw [if_neg h1]
      rcases List.mem_cons.1 h with h | h
      · exact absurd (by rw [h]; exact keq_refl _) h1
      · exact get_of_mem h
theorem get_mem : ∀ {L : List (Ky × Ds)} {k : Ky} {d : Ds}, getL L k = some d → ∃ p ∈ L, p.2 = d
  | [], _, _, h => by cases h
  | a :: r, k, d, h => by
    rw [getL_cons] at h
    by_cases h1 : keq k a.1 = true
    · rw [if_pos h1] at h
      exact ⟨a, by simp, by simpa using h⟩
    · rw [if_neg h1] at h
      obtain ⟨p, hp, he⟩ := get_mem h
      exact ⟨p, by simp [hp], he⟩

/-- no two keys are the same -/
def KNodup : List Ky → Prop := List.Pairwise fun a b => keq a b = false
theorem KNodup.perm {a b : List Ky} (h : a.Perm b) (hb : KNodup b) : KNodup a :=
  (h.pairwise_iff (R := fun a b => keq a b = false) (fun {x y} hxy => by
    cases e : keq y x with
    | false => rfl
    | true => rw [keq_symm e] at hxy; cases hxy)).2 hb

theorem nodup_put : ∀ {L : List (Ky × Ds)} {k : Ky} {d : Ds}, KNodup (L.map (·.1)) → KNodup ((putL L k d).map (·.1)) := by
  intro L k d h
  by_cases hg : getL L k = none
  · rw [putL_new _ _ _ (keyAt_none_get.2 hg), List.map_append]
    refine List.pairwise_append.2 ⟨h, by simp, fun a ha b hb => ?_⟩
    obtain rfl : b = k := by simpa using hb
    cases e : keq a b with
    | false => rfl
    | true =>
      exfalso
      obtain ⟨p, hp, rfl⟩ := List.mem_map.1 ha
      have : ∀ (M : List (Ky × Ds)), p ∈ M → getL M b ≠ none := by
        intro M hM
        induction M with
        | nil => cases hM
        | cons q r ih =>
          unfold getL
          split
          · simp
          · rename_i hq
            rcases List.mem_cons.1 hM with rfl | hM
            · exact absurd (keq_symm e) hq
            · exact ih hM
      exact this L hp hg
  · rw [keys_put _ _ _ hg]; exact h

/-- what fixing makes of a property -/
def fixD (frozen : Bool) (d : Ds) : Ds := if frozen && Dc.there d.val then { d with w := 1, c := 1 } else { d with c := 1 }
/-- .. of those with some keys, one behind the other -/
def fixAll (frozen : Bool) : List Ky → List (Ky × Ds) → List (Ky × Ds)
  | [], L => L
  | k :: r, L => fixAll frozen r (putL L k (fixD frozen ((getL L k).getD Dc.d0)))

theorem fixAll_keys (fz : Bool) : ∀ (K : List Ky) (L : List (Ky × Ds)), (∀ k ∈ K, getL L k ≠ none) → (fixAll fz K L).map (·.1) = L.map (·.1)
  | [], _, _ => rfl
  | k :: r, L, h => by
    rw [fixAll, fixAll_keys fz r _ (fun k' hk' => ?_), keys_put _ _ _ (h k (by simp))]
    rw [get_put]; split
    · simp
    · exact h k' (by simp [hk'])

theorem fixAll_get (fz : Bool) : ∀ (K : List Ky) (L : List (Ky × Ds)), KNodup K → ∀ k', getL (fixAll fz K L) k' = if K.any (keq k') then some (fixD fz ((getL L k').getD Dc.d0)) else getL L k'
  | [], _, _, k' => rfl
  | k :: r, L, h, k' => by
    rw [fixAll, fixAll_get fz r _ (List.pairwise_cons.1 h).2, get_put]
    have h1 := (List.pairwise_cons.1 h).1
    simp only [List.any_cons]
    by_cases e : keq k' k = true
    · have hr : r.any (keq k') = false := by
        rw [List.any_eq_false]
        intro x hx hq
        have := h1 x hx
        rw [keq_trans (keq_symm e) hq] at this; cases this
      simp only [e, hr, Bool.true_or, if_true, Bool.false_eq_true, if_false, Option.some.injEq]
      have hL : ∀ (M : List (Ky × Ds)), getL M k' = getL M k := by
        intro M
        induction M with
        | nil => rfl
        | cons q s ih =>
          simp only [getL, ih]
          by_cases hq : keq k q.1 = true
          · rw [if_pos hq, if_pos (keq_trans e hq)]
          · rw [if_neg hq, if_neg (fun hq' => hq (keq_trans (keq_symm e) hq'))]
      rw [hL]
    · simp only [e, Bool.false_or, if_false, Bool.false_eq_true]

/-- all that is said of an object's properties -/
structure LOk (L : List (Ky × Ds)) : Prop where
  nodup : KNodup (L.map (·.1))
  whole : ∀ p ∈ L, Dc.Whole uvalid p.2
  keys : ∀ p ∈ L, kgood p.1 = true

theorem LOk.get {L : List (Ky × Ds)} (h : LOk L) {k : Ky} {d : Ds} (hg : getL L k = some d) : Dc.Whole uvalid d := by
  obtain ⟨p, hp, rfl⟩ := get_mem hg
  exact h.whole p hp
theorem mem_put : ∀ {L : List (Ky × Ds)} {k : Ky} {d : Ds} {p : Ky × Ds}, p ∈ putL L k d → p ∈ L ∨ (p.2 = d ∧ (p.1 = k ∨ ∃ q ∈ L, q.1 = p.1))
  | [], k, d, p, h => by obtain rfl : p = (k, d) := by simpa [putL] using h
                         exact .inr ⟨rfl, .inl rfl⟩
  | a :: r, k, d, p, h => by
    unfold putL at h
    split at h
    · rcases List.mem_cons.1 h with rfl | h
      · exact .inr ⟨rfl, .inr ⟨a, by simp, rfl⟩⟩
      · exact .inl (by simp [h])
    · rcases List.mem_cons.1 h with rfl | h
      · exact .inl (by simp)
      · rcases mem_put h with h | ⟨h1, h2 | ⟨q, hq, he⟩⟩
        · exact .inl (by simp [h])
        · exact .inr ⟨h1, .inl h2⟩
        · exact .inr ⟨h1, .inr ⟨q, by simp [hq], he⟩⟩
theorem LOk.put {L : List (Ky × Ds)} (h : LOk L) {k : Ky} {d : Ds} (hk : kgood k = true) (hd : Dc.Whole uvalid d) : LOk (putL L k d) where
  nodup := nodup_put h.nodup
  whole := fun p hp => by
    rcases mem_put hp with hp | ⟨rfl, _⟩
    · exact h.whole p hp
    · exact hd
  keys := fun p hp => by
    rcases mem_put hp with hp | ⟨_, rfl | ⟨q, hq, he⟩⟩
    · exact h.keys p hp
    · exact hk
    · rw [← he]; exact h.keys q hq

end Go.Proofs.YtoalboilghgalaaGreatDoor

/- A heap with one object: how it lies in memory, and what calls keep of the rest. -/
namespace Go.Proofs.YtoalboilghgalaaGreatDoor
open Go.RowKit
open Go.Proofs.Dc (V Ds Ky)

/-- a place in a map whose key is a struct -/
def aggKey (e : MapEntry) : Bool := match e.key with
  | .agg _ => true
  | _ => false
/-- a block of the heap's own, by its kind: a map too, if it is from keys to places, and not empty -/
def Mine : Obj → Bool
  | .cells _ t _ => t == 102 || t == 146 || t == 138 || t == 229 || t == 245
  | .map es _ => es.toList.any aggKey
  | _ => false
theorem MapEs.mine {es : Array MapEntry} {K : List Ky} (h : MapEs es K) (hK : K ≠ []) (c : Nat) : Mine (.map es c) = true := by
  unfold MapEs at h
  cases K with
  | nil => exact absurd rfl hK
  | cons a r =>
    cases he : es.toList with
    | nil => rw [he] at h; simp [List.mapIdx_cons] at h
    | cons e q =>
      rw [he] at h
      simp only [List.map_cons, List.mapIdx_cons, List.cons.injEq, Prod.mk.injEq] at h
      show es.toList.any aggKey = true
      rw [he, List.any_cons]
      have : aggKey e = true := by unfold aggKey; rw [h.1.1]
      rw [this]; rfl

/-- w' is w below n0, and but for the heap's own blocks -/
structure Keeps (n0 : Nat) (w w' : World) : Prop where
  below : Below n0 w w'
  free : ∀ (k : Nat) (o : Obj), w.heap[k]? = some o → Mine o = false → w'.heap[k]? = some o

theorem Keeps.refl (n0 : Nat) (w : World) : Keeps n0 w w := ⟨Below.refl _ _, fun _ _ h _ => h⟩
theorem Keeps.trans {n0 : Nat} {a b c : World} (h : Keeps n0 a b) (k : Keeps n0 b c) : Keeps n0 a c :=
  ⟨h.below.trans k.below, fun i o hi ho => k.free i o (h.free i o hi ho) ho⟩
theorem Keeps.of_below {n0 : Nat} {w w' : World} (h : Below w.heap.size w w') (hn : n0 ≤ w.heap.size) : Keeps n0 w w' :=
  ⟨h.mono hn, fun k _ hk _ => (h.block k (Array.getElem?_eq_some_iff.1 hk).1).trans hk⟩
theorem Keeps.of_only {n0 : Nat} {S : List Nat} {w w' : World} (h : Only S w w') (hS : ∀ b, b ∈ S → n0 ≤ b ∧ (w.heap.size ≤ b ∨ ∃ o, w.heap[b]? = some o ∧ Mine o = true)) (hn : n0 ≤ w.heap.size) : Keeps n0 w w' :=
  ⟨h.below n0 hn (fun b hb => (hS b hb).1), fun k o hk ho => (h.block k (Array.getElem?_eq_some_iff.1 hk).1 fun hm => by
    rcases (hS k hm).2 with h2 | ⟨o', h2, h3⟩
    · have := (Array.getElem?_eq_some_iff.1 hk).1; omega
    · rw [hk] at h2; cases h2; rw [h3] at ho; cases ho).trans hk⟩
theorem Keeps.size {n0 : Nat} {w w' : World} (h : Keeps n0 w w') : w.heap.size ≤ w'.heap.size := h.below.size
theorem Keeps.drew {n0 : Nat} {w w' : World} (h : Keeps n0 w w') : Keeps n0 w w'.drew := ⟨h.below.drew, h.free⟩
theorem Blk.keeps {n0 : Nat} {W W' : World} {b : Nat} {C : Array Value} {t : TypeId} (h : Blk W b C t) (hk : Keeps n0 W W') (ht : Mine (.cells C t) = false) : Blk W' b C t := hk.free _ _ h ht

/-- what an object is besides its properties -/
structure Kd where
  cls : Int
  proto : V
  mv : Value
  sv : Value

def vN : V := ⟨2, false, 0, ByteArray.empty, 0⟩
/-- an ordinary object without a prototype -/
def kO : Kd := ⟨1, vN, .iface 105 (.agg #[]), .nilIface⟩

def oArr (kd : Kd) (ext : Bool) (tp : Option Addr) : Array Value :=
  #[.int .i64 kd.cls, .int .i64 kd.proto.kind, .bool kd.proto.bool, .float .f64 kd.proto.num, .string kd.proto.str, .int .i64 kd.proto.id, .bool ext, kd.mv, kd.sv, .pointer tp]
theorem Blk.cellO {W : World} {b : Nat} {kd : Kd} {ext : Bool} {tp : Option Addr} (h : Blk W b (oArr kd ext tp) 146) : ∀ j, W.cell? ⟨b, j, none⟩ =
    #[.int .i64 kd.cls, .int .i64 kd.proto.kind, .bool kd.proto.bool, .float .f64 kd.proto.num, .string kd.proto.str, .int .i64 kd.proto.id, .bool ext, kd.mv, kd.sv, .pointer tp][j]? := h.cell
theorem set_ext (kd : Kd) (ext x : Bool) (tp : Option Addr) : (oArr kd ext tp).setIfInBounds 6 (.bool x) = oArr kd x tp := rfl
theorem set_tab (kd : Kd) (ext : Bool) (tp tq : Option Addr) : (oArr kd ext tp).setIfInBounds 9 (.pointer tq) = oArr kd ext tq := rfl

/-- the object's table, or none -/
def TabAt (n0 : Nat) (W : World) (tp : Option Addr) (L : List (Ky × Ds)) : Prop :=
  (tp = none ∧ L = []) ∨ ∃ tb mb ev, tp = some ⟨tb, 0, none⟩ ∧ n0 ≤ tb ∧ n0 ≤ mb ∧ TabSt n0 W tb ev mb L ∧ L ≠ []

/-- the heap hb with the one object ob -/
structure StX (n0 : Nat) (W : World) (hb : Nat) (ov : Value) (ob : Nat) (tp : Option Addr) (cap fuel deep : Int) (kd : Kd) (ext : Bool) (L : List (Ky × Ds)) : Prop where
  h : Blk W hb (hArr cap fuel 10 deep ov) 102
  row : W.ownsRow n0 138 1 ov 1 [.pointer (some ⟨ob, 0, none⟩)]
  o : Blk W ob (oArr kd ext tp) 146
  tab : TabAt n0 W tp L
  hn : n0 ≤ hb
  on : n0 ≤ ob
  tabs : Tabs W
  tn : Tryz.lays197_ren.g 3 < n0 ∧ Tryz.lays197_ren.g 4 < n0
  sz : n0 ≤ W.heap.size

def St (n0 : Nat) (W : World) (hb : Nat) (cap fuel deep : Int) (kd : Kd) (ext : Bool) (L : List (Ky × Ds)) : Prop :=
  ∃ ov ob tp, StX n0 W hb ov ob tp cap fuel deep kd ext L

theorem TabSt.only {base : Nat} {W W' : World} {tb mb : Nat} {ev : Value} {L : List (Ky × Ds)} {S : List Nat} (h : TabSt base W tb ev mb L) (ho : Only S W W') (h1 : tb ∉ S) (h2 : mb ∉ S) (h3 : ∀ g, ev.ownBlock = some g → g ∉ S) : TabSt base W' tb ev mb L :=
  ⟨h.tab.only ho h1, ownsRow_only h.row ho h3, h.map.keep (ho.block mb h.map.lt h2), h.len⟩
theorem TabSt.below {base : Nat} {W W' : World} {tb mb : Nat} {ev : Value} {L : List (Ky × Ds)} (h : TabSt base W tb ev mb L) (hb : Below W.heap.size W W') : TabSt base W' tb ev mb L :=
  h.only (S := []) (Only.of_below hb) (by simp) (by simp) (by simp)
theorem TabAt.only {n0 : Nat} {W W' : World} {tp : Option Addr} {L : List (Ky × Ds)} {S : List Nat} (h : TabAt n0 W tp L) (ho : Only S W W')
    (hS : ∀ b, b ∈ S → ∃ C t, Blk W b C t ∧ t ≠ 229 ∧ t ≠ 245) : TabAt n0 W' tp L := by
  rcases h with h | ⟨tb, mb, ev, h1, h2, h3, h4, hne⟩
  · exact .inl h
  · refine .inr ⟨tb, mb, ev, h1, h2, h3, h4.only ho (fun hm => ?_) (fun hm => ?_) (fun g hg hm => ?_), hne⟩
    · obtain ⟨C, t, hb, n1, _⟩ := hS _ hm
      have := h4.tab; unfold Blk at this hb; rw [hb] at this; simp only [Option.some.injEq, Obj.cells.injEq] at this
      exact n1 this.2.1
    · obtain ⟨C, t, hb, _⟩ := hS _ hm
      exact h4.map.ne hb rfl
    · obtain ⟨C, t, hb, _, n2⟩ := hS _ hm
      exact ownsRow_ne h4.row hb (Ne.symm n2) g hg rfl

theorem Blk.ne {W : World} {b c : Nat} {C D : Array Value} {t u : TypeId} (h : Blk W b C t) (k : Blk W c D u) (hn : t ≠ u) : b ≠ c := by
  rintro rfl
  unfold Blk at h k
  rw [h] at k
  simp only [Option.some.injEq, Obj.cells.injEq] at k
  exact hn k.2.1

theorem StX.below {n0 : Nat} {W W' : World} {hb : Nat} {ov : Value} {ob : Nat} {tp : Option Addr} {cap fuel deep : Int} {kd : Kd} {ext : Bool} {L : List (Ky × Ds)} (s : StX n0 W hb ov ob tp cap fuel deep kd ext L) (h : Below W.heap.size W W') : StX n0 W' hb ov ob tp cap fuel deep kd ext L :=
  ⟨s.h.next h, ownsRow_only s.row (Only.of_below (S := []) h) (by simp), s.o.next h, s.tab.only (Only.of_below (S := []) h) (by simp), s.hn, s.on, s.tabs.below h, s.tn, Nat.le_trans s.sz h.size⟩
theorem St.below {n0 : Nat} {W W' : World} {hb : Nat} {cap fuel deep : Int} {kd : Kd} {ext : Bool} {L : List (Ky × Ds)} (s : St n0 W hb cap fuel deep kd ext L) (h : Below W.heap.size W W') : St n0 W' hb cap fuel deep kd ext L := by
  obtain ⟨ov, ob, tp, s⟩ := s; exact ⟨ov, ob, tp, s.below h⟩
theorem St.keeps {n0 : Nat} {W W' : World} {hb : Nat} {cap fuel deep : Int} {kd : Kd} {ext : Bool} {L : List (Ky × Ds)} (s : St n0 W hb cap fuel deep kd ext L) (h : Below W.heap.size W W') : Keeps n0 W W' := by
  obtain ⟨ov, ob, tp, s⟩ := s; exact Keeps.of_below h s.sz
theorem St.drew {n0 : Nat} {W : World} {hb : Nat} {cap fuel deep : Int} {kd : Kd} {ext : Bool} {L : List (Ky × Ds)} (s : St n0 W hb cap fuel deep kd ext L) : St n0 W.drew hb cap fuel deep kd ext L := s.below (Below.refl _ _).drew

/-- the heap's own words are written -/
theorem StX.heap {n0 : Nat} {W W' : World} {hb : Nat} {ov : Value} {ob : Nat} {tp : Option Addr} {cap fuel deep fuel' deep' : Int} {kd : Kd} {ext : Bool} {L : List (Ky × Ds)} (s : StX n0 W hb ov ob tp cap fuel deep kd ext L)
    (h : Blk W' hb (hArr cap fuel' 10 deep' ov) 102) (ho : Only [hb] W W') : StX n0 W' hb ov ob tp cap fuel' deep' kd ext L ∧ Keeps n0 W W' := by
  have h3 : Tryz.lays197_ren.g 3 ∉ [hb] := by simp; have := s.tn; have := s.hn; omega
  have h4 : Tryz.lays197_ren.g 4 ∉ [hb] := by simp; have := s.tn; have := s.hn; omega
  refine ⟨⟨h, ownsRow_only s.row ho (fun g hg => by simpa using ownsRow_ne s.row s.h (by decide) g hg), s.o.only ho (by simpa using s.o.ne s.h (by decide)), s.tab.only ho (fun b hb' => ?_), s.hn, s.on, s.tabs.only ho h3 h4, s.tn, Nat.le_trans s.sz ho.size⟩, Keeps.of_only ho (fun b hb' => ?_) s.sz⟩
  · obtain rfl : b = hb := by simpa using hb'
    exact ⟨_, _, s.h, by decide, by decide⟩
  · obtain rfl : b = hb := by simpa using hb'
    exact ⟨s.hn, .inr ⟨_, s.h, rfl⟩⟩

/-- the object's own words are written -/
theorem StX.obj {n0 : Nat} {W W' : World} {hb : Nat} {ov : Value} {ob : Nat} {tp : Option Addr} {cap fuel deep : Int} {kd : Kd} {ext ext' : Bool} {L : List (Ky × Ds)} (s : StX n0 W hb ov ob tp cap fuel deep kd ext L)
    (h : Blk W' ob (oArr kd ext' tp) 146) (ho : Only [ob] W W') : StX n0 W' hb ov ob tp cap fuel deep kd ext' L ∧ Keeps n0 W W' := by
  have h3 : Tryz.lays197_ren.g 3 ∉ [ob] := by simp; have := s.tn; have := s.on; omega
  have h4 : Tryz.lays197_ren.g 4 ∉ [ob] := by simp; have := s.tn; have := s.on; omega
  refine ⟨⟨s.h.only ho (by simpa using s.h.ne s.o (by decide)), ownsRow_only s.row ho (fun g hg => by simpa using ownsRow_ne s.row s.o (by decide) g hg), h, s.tab.only ho (fun b hb' => ?_), s.hn, s.on, s.tabs.only ho h3 h4, s.tn, Nat.le_trans s.sz ho.size⟩, Keeps.of_only ho (fun b hb' => ?_) s.sz⟩
  · obtain rfl : b = ob := by simpa using hb'
    exact ⟨_, _, s.o, by decide, by decide⟩
  · obtain rfl : b = ob := by simpa using hb'
    exact ⟨s.on, .inr ⟨_, s.o, rfl⟩⟩

/-- where a row lies -/
theorem ownsRow_at {W : World} {base : Nat} {e : TypeId} {size n : Nat} {v : Value} {xs : List Value} (h : W.ownsRow base e size v n xs) : ∀ g, v.ownBlock = some g → base ≤ g ∧ ∃ C, Blk W g C e := by
  intro g hg
  obtain ⟨_, h2⟩ := h
  rcases h2 with ⟨rfl, _⟩ | ⟨g', cap, cur, rfl, hb, hh, _⟩
  · cases hg
  · obtain rfl : g' = g := by simpa [Value.ownBlock] using hg
    exact ⟨hb, _, hh⟩

/-- the table is written -/
theorem StX.table {n0 : Nat} {W W' : World} {hb : Nat} {ov : Value} {ob : Nat} {cap fuel deep : Int} {kd : Kd} {ext : Bool} {L L' : List (Ky × Ds)} {tb mb mb' : Nat} {ev ev' : Value} (s : StX n0 W hb ov ob (some ⟨tb, 0, none⟩) cap fuel deep kd ext L)
    (ht : TabSt n0 W tb ev mb L) (hl : n0 ≤ tb ∧ n0 ≤ mb) (hl' : n0 ≤ mb') (h : TabSt n0 W' tb ev' mb' L') (ho : Only (tb :: mb :: ev.ownBlock.toList) W W') (hne : L ≠ []) (hne' : L' ≠ []) : StX n0 W' hb ov ob (some ⟨tb, 0, none⟩) cap fuel deep kd ext L' ∧ Keeps n0 W W' := by
  have hev : ∀ g, ev.ownBlock = some g → n0 ≤ g ∧ ∃ C, Blk W g C 245 := ownsRow_at ht.row
  have hbl : ∀ b, b ∈ tb :: mb :: ev.ownBlock.toList → n0 ≤ b ∧ ∃ o, W.heap[b]? = some o ∧ Mine o = true ∧ ∀ C t, Blk W b C t → t = 229 ∨ t = 245 := by
    intro b hb
    simp only [List.mem_cons, Option.mem_toList] at hb
    rcases hb with rfl | rfl | hb
    · refine ⟨hl.1, _, ht.tab, rfl, fun C t h => .inl ?_⟩
      have := ht.tab; unfold Blk at this h; rw [h] at this; simp only [Option.some.injEq, Obj.cells.injEq] at this; exact this.2.1
    · obtain ⟨es, clock, hm, hes⟩ := ht.map
      refine ⟨hl.2, _, hm, hes.mine (by simpa using hne) _, fun C t h => ?_⟩
      unfold Blk at h; rw [h] at hm; cases hm
    · obtain ⟨h1, C, h2⟩ := hev b hb
      refine ⟨h1, _, h2, rfl, fun D t h => .inr ?_⟩
      unfold Blk at h2 h; rw [h] at h2; simp only [Option.some.injEq, Obj.cells.injEq] at h2; exact h2.2.1
  have hnot : ∀ b C t, Blk W b C t → t ≠ 229 → t ≠ 245 → b ∉ tb :: mb :: ev.ownBlock.toList := fun b C t h n1 n2 hm => by
    obtain ⟨_, _, _, _, h5⟩ := hbl b hm
    rcases h5 C t h with h | h
    · exact n1 h
    · exact n2 h
  have hlow : ∀ b, b < n0 → b ∉ tb :: mb :: ev.ownBlock.toList := fun b h hm => by have := (hbl b hm).1; omega
  refine ⟨⟨s.h.only ho (hnot _ _ _ s.h (by decide) (by decide)), ownsRow_only s.row ho (fun g hg => ?_), s.o.only ho (hnot _ _ _ s.o (by decide) (by decide)), .inr ⟨tb, mb', ev', rfl, hl.1, hl', h, hne'⟩, s.hn, s.on, s.tabs.only ho (hlow _ s.tn.1) (hlow _ s.tn.2), s.tn, Nat.le_trans s.sz ho.size⟩,
    Keeps.of_only ho (fun b hb' => ⟨(hbl b hb').1, .inr (by obtain ⟨_, o, h1, h2, _⟩ := hbl b hb'; exact ⟨o, h1, h2⟩)⟩) s.sz⟩
  obtain ⟨_, C, hC⟩ := ownsRow_at s.row g hg
  exact hnot _ _ _ hC (by decide) (by decide)

/-- where the objects' row lies -/
theorem StX.objs {n0 : Nat} {W : World} {hb : Nat} {ov : Value} {ob : Nat} {tp : Option Addr} {cap fuel deep : Int} {kd : Kd} {ext : Bool} {L : List (Ky × Ds)} (s : StX n0 W hb ov ob tp cap fuel deep kd ext L) :
    ∃ g c, ov = .slice (some ⟨g, 0, none⟩) 1 c ∧ W.cell? ⟨g, 0, none⟩ = some (.pointer (some ⟨ob, 0, none⟩)) := by
  obtain ⟨h1, h2⟩ := s.row
  rcases h2 with ⟨_, h2⟩ | ⟨g, cap, cur, hv, hg, hh, hn, hc, hs, ht⟩
  · cases h2
  · refine ⟨g, cap, hv, ?_⟩
    rw [cell_of_row _ _ _ _ _ _ hh]
    have h0 : ([Value.pointer (some ⟨ob, 0, none⟩)] : List Value)[0]? = some (.pointer (some ⟨ob, 0, none⟩)) := rfl
    rw [← ht, List.getElem?_take] at h0
    simpa using h0

end Go.Proofs.YtoalboilghgalaaGreatDoor

/- The heap: has, at, lost, Check, base, Room, Does, Open, Shut, Proto, Class, Fuel, Refuel. -/
namespace Go.Proofs.YtoalboilghgalaaGreatDoor
open Go.RowKit
open Go.Proofs.Dc (V Ds Ky)
attribute [local go_sem] run_store_float

theorem has_one {n0 : Nat} {w : World} {hb : Nat} {ov : Value} {ob : Nat} {tp : Option Addr} {cap fuel deep : Int} {kd : Kd} {ext : Bool} {L : List (Ky × Ds)} (s : StX n0 w hb ov ob tp cap fuel deep kd ext L) : Calls Tryz.prog 83 #[.pointer (some ⟨hb, 0, none⟩), .int .i64 1] w fun e w' => e = .returned (.bool true) ∧ w = w' := by
  obtain ⟨g, c, rfl, hg⟩ := s.objs
  have hc := s.h.cellH
  have ho := s.o.cellO
  clear s
  go_enter Tryz.func83, Tryz.ntmps83
  go_wp2
  go_ret
  exact ⟨rfl, rfl⟩
theorem has_not {n0 : Nat} {w : World} {hb : Nat} {ov : Value} {ob : Nat} {tp : Option Addr} {cap fuel deep : Int} {kd : Kd} {ext : Bool} {L : List (Ky × Ds)} (s : StX n0 w hb ov ob tp cap fuel deep kd ext L) (o : Int) (hne : o ≠ 1) : Calls Tryz.prog 83 #[.pointer (some ⟨hb, 0, none⟩), .int .i64 o] w fun e w' => e = .returned (.bool false) ∧ w = w' := by
  obtain ⟨g, c, rfl, hg⟩ := s.objs
  have hc := s.h.cellH
  have ho := s.o.cellO
  clear s
  by_cases h1 : 1 ≤ o
  · have h2 : decide (o ≤ 1) = false := by simp; omega
    go_enter Tryz.func83, Tryz.ntmps83
    go_wp2
    go_ret
    exact ⟨rfl, rfl⟩
  · go_enter Tryz.func83, Tryz.ntmps83
    go_wp2
    go_ret
    exact ⟨rfl, rfl⟩
theorem at_any {n0 : Nat} {w : World} {hb : Nat} {ov : Value} {ob : Nat} {tp : Option Addr} {cap fuel deep : Int} {kd : Kd} {ext : Bool} {L : List (Ky × Ds)} (s : StX n0 w hb ov ob tp cap fuel deep kd ext L) : Calls Tryz.prog 84 #[.pointer (some ⟨hb, 0, none⟩), .int .i64 1] w fun e w' => e = .returned (.pointer (some ⟨ob, 0, none⟩)) ∧ w = w' := by
  obtain ⟨g, c, rfl, hg⟩ := s.objs
  have hc := s.h.cellH
  have ho := s.o.cellO
  clear s
  go_enter Tryz.func84, Tryz.ntmps84
  go_wp2
  go_ret
  exact ⟨rfl, rfl⟩
theorem room_any {n0 : Nat} {w : World} {hb : Nat} {ov : Value} {ob : Nat} {tp : Option Addr} {cap fuel deep : Int} {kd : Kd} {ext : Bool} {L : List (Ky × Ds)} (s : StX n0 w hb ov ob tp cap fuel deep kd ext L) : Calls Tryz.prog 101 #[.pointer (some ⟨hb, 0, none⟩)] w fun e w' => e = .returned (.int .i64 (if cap ≤ 1 then 3 else 0)) ∧ Below w.heap.size w w' := by
  obtain ⟨g, c, rfl, hg⟩ := s.objs
  have hc := s.h.cellH
  have ho := s.o.cellO
  clear s
  by_cases h1 : cap ≤ 1
  · rw [if_pos h1]
    go_enter Tryz.func101, Tryz.ntmps101
    go_wp2
    go_region
    go_wp2
    go_ret
    exact ⟨rfl, (Below.refl _ _).drew⟩
  · rw [if_neg h1]
    have h1 : 1 < cap := by omega
    go_enter Tryz.func101, Tryz.ntmps101
    go_wp2
    go_region
    go_wp2
    go_ret
    exact ⟨rfl, (Below.refl _ _).drew⟩
theorem does_any {n0 : Nat} {w : World} {hb : Nat} {ov : Value} {ob : Nat} {tp : Option Addr} {cap fuel deep : Int} {kd : Kd} {ext : Bool} {L : List (Ky × Ds)} (s : StX n0 w hb ov ob tp cap fuel deep kd ext L) : Calls Tryz.prog 108 #[.pointer (some ⟨hb, 0, none⟩), .int .i64 1] w fun e w' => e = .returned kd.mv ∧ w = w' := by
  obtain ⟨g, c, rfl, hg⟩ := s.objs
  have hc := s.h.cellH
  have ho := s.o.cellO
  have cA := at_any s
  clear s
  go_enter Tryz.func108, Tryz.ntmps108
  go_wp2_with (go_at_call 84; refine cA.mono ?_; rintro e w' ⟨rfl, rfl⟩)
  go_ret
  exact ⟨rfl, rfl⟩
theorem open_any {n0 : Nat} {w : World} {hb : Nat} {ov : Value} {ob : Nat} {tp : Option Addr} {cap fuel deep : Int} {kd : Kd} {ext : Bool} {L : List (Ky × Ds)} (s : StX n0 w hb ov ob tp cap fuel deep kd ext L) : Calls Tryz.prog 221 #[.pointer (some ⟨hb, 0, none⟩), .int .i64 1] w fun e w' => e = .returned (.bool ext) ∧ w = w' := by
  obtain ⟨g, c, rfl, hg⟩ := s.objs
  have hc := s.h.cellH
  have ho := s.o.cellO
  have cA := at_any s
  clear s
  go_enter Tryz.func221, Tryz.ntmps221
  go_wp2_with (go_at_call 84; refine cA.mono ?_; rintro e w' ⟨rfl, rfl⟩)
  go_ret
  exact ⟨rfl, rfl⟩
theorem class_any {n0 : Nat} {w : World} {hb : Nat} {ov : Value} {ob : Nat} {tp : Option Addr} {cap fuel deep : Int} {kd : Kd} {ext : Bool} {L : List (Ky × Ds)} (s : StX n0 w hb ov ob tp cap fuel deep kd ext L) : Calls Tryz.prog 71 #[.pointer (some ⟨hb, 0, none⟩), .int .i64 1] w fun e w' => e = .returned (.tuple #[.int .i64 kd.cls, .int .i64 0]) ∧ w = w' := by
  obtain ⟨g, c, rfl, hg⟩ := s.objs
  have hc := s.h.cellH
  have ho := s.o.cellO
  have cA := at_any s
  have cH := has_one s
  clear s
  go_enter Tryz.func71, Tryz.ntmps71
  go_wp2_with (first | (go_at_call 84; refine cA.mono ?_; rintro e w' ⟨rfl, rfl⟩) | (go_at_call 83; refine cH.mono ?_; rintro e w' ⟨rfl, rfl⟩))
  go_ret2
  exact ⟨rfl, rfl⟩
theorem shut_any {n0 : Nat} {w : World} {hb : Nat} {ov : Value} {ob : Nat} {tp : Option Addr} {cap fuel deep : Int} {kd : Kd} {ext : Bool} {L : List (Ky × Ds)} (s : StX n0 w hb ov ob tp cap fuel deep kd ext L) : Calls Tryz.prog 91 #[.pointer (some ⟨hb, 0, none⟩), .int .i64 1] w fun e w' => e = .returned (.tuple #[]) ∧ StX n0 w' hb ov ob tp cap fuel deep kd false L ∧ Keeps n0 w w' := by
  obtain ⟨g, c, rfl, hg⟩ := s.objs
  have hc := s.h.cellH
  have ho := s.o.cellO
  have cA := at_any s
  have hf := s.o.frozen
  have S := Lib.hid s
  clear s
  go_enter Tryz.func91, Tryz.ntmps91
  go_wp2_with (go_at_call 84; refine cA.mono ?_; rintro e w' ⟨rfl, rfl⟩)
  go_end0
  have h := only_setCell (o := 6) (v := .bool false) S.out.o
  rw [set_ext] at h
  exact ⟨rfl, S.out.obj h.1 h.2⟩
theorem fuel_any {n0 : Nat} {w : World} {hb : Nat} {ov : Value} {ob : Nat} {tp : Option Addr} {cap fuel deep : Int} {kd : Kd} {ext : Bool} {L : List (Ky × Ds)} (s : StX n0 w hb ov ob tp cap fuel deep kd ext L) : Calls Tryz.prog 75 #[.pointer (some ⟨hb, 0, none⟩)] w fun e w' => e = .returned (.int .i64 fuel) ∧ w = w' := by
  obtain ⟨g, c, rfl, hg⟩ := s.objs
  have hc := s.h.cellH
  have ho := s.o.cellO
  clear s
  go_enter Tryz.func75, Tryz.ntmps75
  go_wp2
  go_ret
  exact ⟨rfl, rfl⟩
theorem refuel_any {n0 : Nat} {w : World} {hb : Nat} {ov : Value} {ob : Nat} {tp : Option Addr} {cap fuel deep : Int} {kd : Kd} {ext : Bool} {L : List (Ky × Ds)} (s : StX n0 w hb ov ob tp cap fuel deep kd ext L) (x : Int) (hx : 0 ≤ x) : Calls Tryz.prog 32 #[.pointer (some ⟨hb, 0, none⟩), .int .i64 x] w fun e w' => e = .returned (.int .i64 0) ∧ StX n0 w' hb ov ob tp cap x deep kd ext L ∧ Keeps n0 w w' := by
  obtain ⟨g, c, rfl, hg⟩ := s.objs
  have hc := s.h.cellH
  have ho := s.o.cellO
  have hf := s.h.frozen
  have S := Lib.hid s
  clear s
  go_enter Tryz.func32, Tryz.ntmps32
  go_wp2
  go_ret
  have h := only_setCell (o := 1) (v := .int .i64 x) S.out.h
  rw [set_fuel] at h
  exact ⟨rfl, S.out.heap h.1 h.2⟩

end Go.Proofs.YtoalboilghgalaaGreatDoor
