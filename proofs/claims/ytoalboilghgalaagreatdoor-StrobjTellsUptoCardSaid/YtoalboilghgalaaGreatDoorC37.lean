/- Lemmas for this claim, in parts: Idxp, Skeys, Sord1, Sget, Sset2, Sset3, Sent2. -/
import Derived.Test.YtoalboilghgalaaGreatDoorC36
import Derived.Test.YtoalboilghgalaaGreatDoorC31
import Derived.Test.YtoalboilghgalaaGreatDoorC35
import Derived.Test.YtoalboilghgalaaGreatDoorC01
import Derived.Test.YtoalboilghgalaaGreatDoorC19
import Derived.Test.YtoalboilghgalaaGreatDoorC30
set_option maxRecDepth 100000
set_option maxHeartbeats 4000000
set_option linter.unusedVariables false
set_option linter.unusedSimpArgs false
/- The keys of indices: plain Lean. -/
namespace Go.Proofs.YtoalboilghgalaaGreatDoor
open Go.RowKit
open Go.Proofs.Dc (V Ds Ky)

theorem dec_small {u : Nat} (h : u < 10) : Lib.decDigits u = [UInt8.ofNat (48 + u)] := by rw [Lib.decDigits, dif_pos h]
theorem dec_big {u : Nat} (h : ¬ u < 10) : Lib.decDigits u = Lib.decDigits (u / 10) ++ [UInt8.ofNat (48 + u % 10)] := by rw [Lib.decDigits, dif_neg h]
theorem dig_byte {d : Nat} (h : d < 10) : (UInt8.ofNat (48 + d)).toNat = 48 + d := by rw [UInt8.toNat_ofNat']; omega
/-- what is true of the digits of all numbers: by the last digit -/
theorem dec_all (P : Nat → List UInt8 → Prop) (h0 : ∀ d, d < 10 → P d [UInt8.ofNat (48 + d)]) (h1 : ∀ u l, 1 ≤ u → P u l → ∀ d, d < 10 → P (10 * u + d) (l ++ [UInt8.ofNat (48 + d)])) : ∀ u, P u (Lib.decDigits u) := by
  intro u
  induction u using Nat.strongRecOn with
  | ind u ih =>
    by_cases h : u < 10
    · rw [dec_small h]; exact h0 u h
    · rw [dec_big h]
      have := h1 (u / 10) _ (by omega) (ih (u / 10) (by omega)) (u % 10) (by omega)
      rwa [show 10 * (u / 10) + u % 10 = u by omega] at this
theorem dec_digF (u : Nat) : digF (Lib.decDigits u) 0 = some u :=
  dec_all (fun u l => digF l 0 = some u) (fun d hd => by
    unfold digF
    rw [dig_byte hd, if_neg (by omega)]
    simp [digF]) (fun u l _ h d hd => by
    rw [digF_app _ _ _ _ h, digF, dig_byte hd, if_neg (by omega)]
    simp [digF]) u
theorem dec_bytes (u : Nat) : ∀ c ∈ Lib.decDigits u, 48 ≤ c.toNat ∧ c.toNat ≤ 57 :=
  dec_all (fun _ l => ∀ c ∈ l, 48 ≤ c.toNat ∧ c.toNat ≤ 57) (fun d hd c hc => by
    rw [List.mem_singleton] at hc; subst hc; rw [dig_byte hd]; omega) (fun u l _ h d hd c hc => by
    rcases List.mem_append.1 hc with hc | hc
    · exact h c hc
    · rw [List.mem_singleton] at hc; subst hc; rw [dig_byte hd]; omega) u
theorem dec_head (u : Nat) : (u = 0 ∧ Lib.decDigits u = [48]) ∨ (1 ≤ u ∧ ∃ c r, Lib.decDigits u = c :: r ∧ c ≠ 48) :=
  dec_all (fun u l => (u = 0 ∧ l = [48]) ∨ (1 ≤ u ∧ ∃ c r, l = c :: r ∧ c ≠ 48)) (fun d hd => by
    by_cases h : d = 0
    · subst h; exact .inl ⟨rfl, rfl⟩
    · refine .inr ⟨by omega, _, _, rfl, fun e => ?_⟩
      have := congrArg UInt8.toNat e
      rw [dig_byte hd] at this
      simp at this
      omega) (fun u l hu h d hd => by
    rcases h with ⟨h, _⟩ | ⟨_, c, r, h2, h3⟩
    · omega
    · exact .inr ⟨by omega, c, r ++ [UInt8.ofNat (48 + d)], by rw [h2]; rfl, h3⟩) u
theorem dec_len (k u : Nat) (h : u < 10 ^ (k + 1)) : (Lib.decDigits u).length ≤ k + 1 := by
  induction k generalizing u with
  | zero => rw [dec_small (by simpa using h)]; simp
  | succ k ih =>
    by_cases hs : u < 10
    · rw [dec_small hs]; simp
    · rw [dec_big hs, List.length_append, List.length_singleton]
      have h3 : (10 : Nat) ^ (k + 1 + 1) = 10 ^ (k + 1) * 10 := Nat.pow_succ _ _
      have := ih (u / 10) (by omega)
      omega
theorem dig_dec {u : Nat} (h : u < 1000000000) : dig ⟨(Lib.decDigits u).toArray⟩ 9007199254740991 = some u := by
  have h1 := dec_len 8 u (by omega)
  have h2 := dec_digF u
  have e : (⟨(Lib.decDigits u).toArray⟩ : ByteArray).toList = Lib.decDigits u := by rw [ByteArray.toList_eq]
  unfold dig
  rw [e]
  simp only
  rw [if_neg, if_neg, if_neg, h2]
  · simp only
    rw [if_neg (by omega)]
  · rintro ⟨h3, h4⟩
    rcases dec_head u with ⟨_, h5⟩ | ⟨_, c, r, h5, h6⟩
    · rw [h5] at h4; simp at h4
    · rw [h5] at h3; simp at h3; exact h6 h3
  · show ¬ 16 < (Lib.decDigits u).toArray.size
    rw [List.size_toArray]; omega
  · intro h3
    rw [h3] at h2
    rcases dec_head u with ⟨_, h5⟩ | ⟨_, c, r, h5, _⟩
    · rw [h5] at h3; cases h3
    · rw [h5] at h3; cases h3
theorem unitI_idx {n u : Nat} (hu : u < n) (h : n ≤ 1000000000) : unitI n (idxK u) = some u := by
  unfold unitI idxK
  rw [if_pos rfl, dig_dec (by omega)]
  simp only
  rw [if_pos hu]
/-- bytes below 128 are a string -/
theorem ascii_valid (l : List UInt8) (h : ∀ c ∈ l, c.toNat < 128) : uvalid ⟨l.toArray⟩ = true := by
  obtain ⟨P, hP⟩ : ∃ P, P = l.map fun c => (c.toNat : Int) := ⟨_, rfl⟩
  have hr : ∀ x ∈ P, 0 ≤ x ∧ x < 128 := by
    intro x hx
    rw [hP] at hx
    obtain ⟨c, hc, rfl⟩ := List.mem_map.1 hx
    have := h c hc
    omega
  have ha : ∀ (Q : List Int) (p : Int), (∀ x ∈ Q, 0 ≤ x ∧ x < 128) → Apart p Q := by
    intro Q
    induction Q with
    | nil => intro _ _; trivial
    | cons a r ih =>
      intro p hQ
      have h1 := hQ a (by simp)
      refine ⟨?_, h1.1, by omega, ih a fun x hx => hQ x (by simp [hx])⟩
      have : ulo a = false := by unfold ulo; exact decide_eq_false (by omega)
      rw [this, Bool.and_false]
  have he : ∀ (Q : List Int), (∀ x ∈ Q, 0 ≤ x ∧ x < 128) → encL Q = Q := by
    intro Q
    induction Q with
    | nil => intro _; rfl
    | cons a r ih =>
      intro hQ
      have h1 := hQ a (by simp)
      rw [encL_cons, ih fun x hx => hQ x (by simp [hx])]
      unfold encI
      rw [if_pos h1.2]; rfl
  have hw := (encL_walk P 0 [] (ha P 0 hr)).1
  rw [List.nil_append, he P hr, List.length_nil] at hw
  have hb : ofB P = ⟨l.toArray⟩ := by
    unfold ofB
    rw [hP, List.map_map]
    congr 2
    conv => rhs; rw [← List.map_id l]
    apply List.map_congr_left
    intro c _
    simp
  rw [hb] at hw
  exact hw
theorem idx_good {u : Nat} (h : u < 1000000000) : kgood (idxK u) = true := by
  have h1 := dec_len 8 u (by omega)
  have h2 : uvalid (idxK u).str = true := ascii_valid _ fun c hc => by have := dec_bytes u c hc; omega
  have h3 : (idxK u).str.size ≤ 1048576 := by
    show (Lib.decDigits u).toArray.size ≤ _
    rw [List.size_toArray]; omega
  unfold kgood
  rw [h2, decide_eq_true h3]
  rfl

end Go.Proofs.YtoalboilghgalaaGreatDoor

/- A String object's own: OwnPropertyKeys. -/
namespace Go.Proofs.YtoalboilghgalaaGreatDoor
open Go.RowKit
open Go.Proofs.Dc (V Ds Ky)
attribute [local go_sem] run_store_float

attribute [local go_sem] Oper.semAt_some
theorem bs55 (k : Ky) (w : World) : (Instr.buildSlice 55 1 #[(0, .agg #[.string k.str, .int .i64 k.sym])]).run Tryz.prog w = .ok (.slice (some ⟨w.heap.size, 0, none⟩) 1 1) (w.alloc (.cells #[.string k.str, .int .i64 k.sym] 40)) := by kernel_rfl
theorem ownsBase {W : World} {base e sz n : Nat} {v : Value} {xs : List Value} (h : W.ownsRow base e sz v n xs) : ∀ k, v.ownBlock = some k → base ≤ k := fun k hk => by
  rcases h.2 with ⟨h, _⟩ | ⟨g, c, cur, h, hg, _⟩
  · rw [h] at hk; cases hk
  · rw [h] at hk; simp only [Value.ownBlock, Option.some.injEq] at hk; omega
/-- an append of a key -/
theorem wpList_appK {ops : Array Oper} {rest : List Oper} {o : Oper} {a : Act} {W : World} {Q : Exit → Act → World → Prop} (hgd : o.guard = none) (s x : Operand) (ho : o.op = .call { callee := .builtin .append, args := #[s, x], argTypes := #[55, 55] })
    {base : Nat} {v : Value} {K : List Ky} {n : Nat} (hO : W.ownsRow base 40 2 v n (kAll K)) (hs : a.eval s = v) (ad : Nat) (k : Ky) (hx : a.eval x = .slice (some ⟨ad, 0, none⟩) 1 1) (hN : Blk W ad #[.string k.str, .int .i64 k.sym] 40) (hsz : n + 1 ≤ 1099511627776) (hb : base ≤ W.heap.size)
    (h : ∀ v' W', W'.ownsRow base 40 2 v' (n + 1) (kAll (K ++ [k])) → W.grownBy W' v.ownBlock → (v'.ownBlock = v.ownBlock ∨ v'.ownBlock = some W.heap.size) → wpList Tryz.prog ops Q rest (a.put o.dst v') W') : wpList Tryz.prog ops Q (o :: rest) a W := by
  obtain ⟨i0, hi0, hz0, hz1, hz2⟩ := info_parts Tryz.info40
  refine wpList_append_own_at _ hgd s x 55 ho base 40 i0 _ 2 24 Tryz.underlying55 hi0 hz0 hz1 hz2 rfl (by decide) v n (kAll K) hs hO ⟨ad, 0, none⟩ 1 1 [.string k.str, .int .i64 k.sym] hx rfl ?_ (by simp [Value.oneCell']) (by unfold maxLen; omega) (by omega) (by omega) ?_
  · intro j u hu
    rw [show (⟨ad, 0, none⟩ : Addr).add j = ⟨ad, j, none⟩ by unfold Addr.add; split <;> simp_all, hN.cell]
    simpa using hu
  · intro v' w' h2 hgr _ h4
    refine h v' w' ?_ hgr h4
    rw [kAll_app]
    exact h2
theorem KeysAt.next {W W' : World} {b : Nat} {v : Value} {l : List Ky} (h : KeysAt W b v l) (hb : Below W.heap.size W W') : KeysAt W' b v l := by
  rcases h with h | ⟨g, c, r, h1, h2, h3⟩
  · exact .inl h
  · exact .inr ⟨g, c, r, h1, h2, h3.next hb⟩
/-- two rows are not one block -/
def OffB (v v2 : Value) : Prop := ∀ g, v.ownBlock = some g → v2.ownBlock ≠ some g
theorem KeysAt.grown {W W' : World} {b : Nat} {v v2 : Value} {l : List Ky} (h : KeysAt W b v2 l) (hg : W.grownBy W' v.ownBlock) (ho : OffB v v2) : KeysAt W' b v2 l := by
  rcases h with h | ⟨g, c, r, rfl, h2, h3⟩
  · exact .inl h
  · exact .inr ⟨g, c, r, rfl, h2, (hg.block g h3.lt (fun e => ho g e.symm rfl)).trans h3⟩
theorem KeysAt.lt {W : World} {b : Nat} {v : Value} {l : List Ky} (h : KeysAt W b v l) : ∀ g, v.ownBlock = some g → b ≤ g ∧ g < W.heap.size := fun g hg => by
  rcases h with ⟨_, rfl⟩ | ⟨g', c, r, rfl, h2, h3⟩
  · cases hg
  · simp only [Value.ownBlock, Option.some.injEq] at hg; subst hg; exact ⟨h2, h3.lt⟩
theorem keysAt_of {W : World} {base n : Nat} {v : Value} {K : List Ky} (h : W.ownsRow base 40 2 v n (kAll K)) (hn : K.length = n) (h0 : n = 0 → v = .slice none 0 0) : KeysAt W 0 v K := by
  subst hn
  by_cases hz : K.length = 0
  · exact .inl ⟨List.eq_nil_of_length_eq_zero hz, h0 hz⟩
  · obtain ⟨g, cp, rfl, hg, _⟩ := World.ownsRow.form h (by omega)
    obtain ⟨r, hB⟩ := (RowAt.of h).krow
    exact .inr ⟨g, cp, r, rfl, Nat.zero_le _, hB⟩
theorem wpList_bs_k {ops : Array Oper} {rest : List Oper} {o : Oper} {a : Act} {W : World} {Q : Exit → Act → World → Prop} (hgd : o.guard = none) (x : Operand) (ho : o.op = .buildSlice 55 1 #[(0, x)]) (k : Ky) (hx : a.eval x = .agg #[.string k.str, .int .i64 k.sym])
    (h : ∀ W', Blk W' W.heap.size #[.string k.str, .int .i64 k.sym] 40 → Below W.heap.size W W' → wpList Tryz.prog ops Q rest (a.put o.dst (.slice (some ⟨W.heap.size, 0, none⟩) 1 1)) W') : wpList Tryz.prog ops Q (o :: rest) a W :=
  wpList_bs_b hgd 55 40 1 #[(0, x)] ho #[.string k.str, .int .i64 k.sym] (fun w => by simp only [List.map_cons, List.map_nil, hx]; exact bs55 k w) h
/-- a String object's keys -/
def keysS (n : Nat) (L : List (Ky × Ds)) : List Ky := (List.range n).map idxK ++ sortK L
theorem KeysAt.cons {W : World} {b : Nat} {v : Value} {l : List Ky} (h : KeysAt W b v l) (hl : 0 < l.length) : ∃ g c r, v = .slice (some ⟨g, 0, none⟩) l.length c ∧ b ≤ g ∧ Blk W g (kRow l r) 40 := by
  rcases h with ⟨rfl, _⟩ | h
  · simp at hl
  · exact h
theorem sortK_ne {L : List (Ky × Ds)} (h : L ≠ []) : 0 < (sortK L).length := by
  unfold sortK
  rw [(Srt.stable_perm _).length_eq, List.length_map]
  exact List.length_pos_iff.2 h

theorem skeys_any {n0 : Nat} {w : World} {hb : Nat} {ov : Value} {ob : Nat} {tp : Option Addr} {cap fuel deep : Int} {kd : Kd} {ext : Bool} {L : List (Ky × Ds)} (s : StX n0 w hb ov ob tp cap fuel deep kd ext L) {xb g uc : Nat} {sb : ByteArray} {A : Option Addr} {U : List Int} (hS : SAt w xb sb g uc A U) (hP : ∀ W, Below w.heap.size w W → PowT W) (hg : LGood L) (hne : L ≠ []) (hlen : L.length ≤ 1000000) : Calls Tryz.prog 214 #[.pointer (some ⟨xb, 0, none⟩), .pointer (some ⟨hb, 0, none⟩), .int .i64 1] w fun e w' => ∃ v, e = .returned (.tuple #[v, .nilIface]) ∧ KeysAt w' 0 v (keysS U.length L) ∧ Below w.heap.size w w' := by
  have hc := hS.blk.cell 1
  have hsm := hS.len
  obtain ⟨n, hn⟩ : ∃ n, U.length = n := ⟨_, rfl⟩
  rw [hn] at hc hsm ⊢
  have HS := Lib.hid s
  have HG := Lib.hid hg
  have cI : ∀ i, i < n → ∀ W, Below w.heap.size w W → Calls Tryz.prog 22 #[.int .u32 i] W fun e w' => e = .returned (.agg (kArr (idxK i))) ∧ Below W.heap.size W w' := fun i hi W hb =>
    fromidx_any i (by omega) W (fun W' hb' => hP W' (hb.trans (hb'.mono hb.size)))
  have HSL := Lib.hid (And.intro (show (sortK L).length ≤ 1000000 by unfold sortK; rw [(Srt.stable_perm _).length_eq, List.length_map]; exact hlen) (sortK_ne hne))
  clear hS s hg hlen hP hne hn
  go_enter Tryz.func214, Tryz.ntmps214
  go_wp2
  go_loopg [8, 15] n (fun fu s8 s15 wr => ∃ (i : Nat) (v : Value), v = s8 ∧ s15 = .int .i64 i ∧ i + fu = n ∧ wr.ownsRow w.heap.size 40 2 v i (kAll ((List.range i).map idxK)) ∧ Below w.heap.size w wr)
  case atStart => exact ⟨0, _, rfl, rfl, by omega, ⟨rfl, .inl ⟨rfl, rfl⟩⟩, Below.refl _ _⟩
  case round =>
    obtain ⟨i, v, rfl, rfl, hi, hown, hbW⟩ := hrel
    have hsW := hbW.size
    by_cases hlt : i < n
    · have HO := Lib.hid hown
      obtain ⟨fu, rfl⟩ : ∃ fu, gk = fu + 1 := ⟨gk - 1, by omega⟩
      obtain ⟨i2, hi2⟩ : ∃ i2, i + 1 = i2 := ⟨_, rfl⟩
      have e1 : (i : Int) + 1 = (i2 : Int) := by omega
      have e2 := wrap_nat i2 (by omega)
      have e3 : (0 : Int) ≤ (i : Int) := by omega
      have e4 : (i : Int) < (n : Int) := by omega
      have e5 : IntKind.u32.wrap (i : Int) = (i : Int) := by unfold IntKind.wrap; simp [IntKind.signed, IntKind.bits]; omega
      have hi3 : i2 + fu = n := by omega
      have HI3 := Lib.hid (And.intro hi3 hi2)
      clear hown hi2 hi3 hi
      go_wp2_with (first | (go_at_call 22; refine (cI i hlt _ hbW).mono ?_; rintro e wa ⟨rfl, hba⟩; have hba' := hba) | ((with_reducible show wpList _ _ _ (⟨_, .buildSlice 55 _ _, _, _, _, _⟩ :: _) _ _); refine wpList_bs_k rfl _ rfl (idxK i) rfl ?_; intro wb hN hbb; have hWC := hba.trans (hbb.mono hba.size); have hszc := hWC.size) | ((with_reducible show wpList _ _ _ (⟨some 23, .call _, _, _, _, _⟩ :: _) _ _); refine wpList_appK rfl _ _ rfl (base := w.heap.size) (K := (List.range i).map idxK) (ownsRow_only HO.out (Only.of_below (S := []) hWC) (by simp)) rfl _ (idxK i) rfl hN (by omega) (by omega) ?_; intro v' wd hown2 hgr hob; have hfin := (hbW.trans (hWC.mono hbW.size)).grown hgr (by omega) (ownsBase HO.out); have HOWN := Lib.hid hown2; clear hown2))
      go_roundg fu
      case measure => omega
      case rel =>
        have e := HI3.out.2
        subst e
        refine ⟨i + 1, _, rfl, by go_num, HI3.out.1, ?_, hfin⟩
        rw [List.range_succ, List.map_append]
        exact HOWN.out
    · obtain rfl : i = n := by omega
      have hlti : ¬ (i : Int) < (i : Int) := by omega
      have HO := Lib.hid hown
      clear hown
      obtain ⟨i0, hi0, hz0, hz1, hz2⟩ := info_parts Tryz.info40
      go_wp2_with (first | (go_at_call 228; refine (hkeys_any (HS.out.below hbW) HG.out).mono ?_; rintro e w2 ⟨v2, rfl, hk2, hb2⟩; obtain ⟨g2, c2, r2, rfl, hg2, hR2⟩ := hk2.cons HSL.out.2) | ((with_reducible show wpList _ _ _ (⟨some 29, .call _, _, _, _, _⟩ :: _) _ _); refine wpList_append_own_at w2 rfl (.tmp 25) (.tmp 28) 55 rfl w.heap.size 40 i0 _ 2 24 Tryz.underlying55 hi0 hz0 hz1 hz2 rfl (by decide) v i (kAll ((List.range i).map idxK)) rfl (ownsRow_only HO.out (Only.of_below (S := []) hb2) (by simp)) ⟨g2, 0, none⟩ (sortK L).length c2 (kAll (sortK L)) rfl (kAll_length _) (fun j u hu => by rw [addr_addE, hR2.cell]; unfold kRow; rw [List.getElem?_toArray, List.getElem?_append_left (List.getElem?_eq_some_iff.1 hu).1]; exact hu) (kAll_one _) (by have := HSL.out.1; unfold maxLen; omega) (by have := HSL.out.1; omega) (by have := hb2.size; omega) ?_; intro v' w3 hown2 hgr _ _))
      go_ret2
      refine ⟨v', rfl, ?_, (hbW.trans (hb2.mono hbW.size)).grown hgr (by have := hb2.size; omega) (ownsBase HO.out)⟩
      refine keysAt_of (base := w.heap.size) (n := i + (sortK L).length) ?_ (by unfold keysS; rw [List.length_append, List.length_map, List.length_range]) (fun h => by have := HSL.out.2; omega)
      unfold keysS
      rw [kAll_app]
      exact hown2


end Go.Proofs.YtoalboilghgalaaGreatDoor

/- An ordinary object's Delete, of a String object. -/
namespace Go.Proofs.YtoalboilghgalaaGreatDoor
open Go.RowKit
open Go.Proofs.Dc (V Ds Ky)
attribute [local go_sem] run_store_float

theorem sdel_none {n0 : Nat} {w : World} {hb : Nat} {ov : Value} {ob : Nat} {tp : Option Addr} {cap fuel deep : Int} {kd : Kd} {ext : Bool} {L : List (Ky × Ds)} (s : StX n0 w hb ov ob tp cap fuel deep kd ext L) {xb g uc : Nat} {sb : ByteArray} {A : Option Addr} {U : List Int} (hS : SAt w xb sb g uc A U) (hmv : kd.mv = .iface 103 (.pointer (some ⟨xb, 0, none⟩))) (k : Ky) (ho : ownS L U k = none) : Calls Tryz.prog 208 #[.agg #[], .pointer (some ⟨hb, 0, none⟩), .int .i64 1, .agg (kArr k)] w fun e w' => DefPost n0 w hb ov ob cap fuel deep kd ext true L e w' := by
  have hm := sGetOwn xb
  have hdd : True := trivial
  have cO : ∀ W, StX n0 W hb ov ob tp cap fuel deep kd ext L → Keeps n0 w W → Calls Tryz.prog 210 #[.pointer (some ⟨xb, 0, none⟩), .pointer (some ⟨hb, 0, none⟩), .int .i64 1, .agg (kArr k)] W fun e w' => Rd (.tuple #[.agg (dArr Dc.d0), .bool false, .nilIface]) n0 W hb ov ob tp cap fuel deep kd ext L e w' := fun W s hk => by
    have h := sown_any s (hS.keeps hk) k
    unfold rdS at h
    rw [ho] at h
    exact h
  have cur := Bag.start s
  clear s hS ho
  go_enter Tryz.func208, Tryz.ntmps208
  go_wp2_with (first | ((with_reducible show wpList _ _ _ (⟨_, .box 105 _, _, _, _, _⟩ :: _) _ _); refine wpList_box_blk rfl 105 _ rfl (#[]) rfl ?_; intro wz hB hL hs; replace cur := cur.push hL hB (Nat.le_refl _) rfl; clear hB hL hs) | ((with_reducible show wpList _ _ _ (⟨_, .box 40 _, _, _, _, _⟩ :: _) _ _); refine wpList_box_blk rfl 40 _ rfl (kArr k) rfl ?_; intro wk hB hL hs; replace cur := cur.push hL hB (Nat.le_refl _) rfl; clear hB hL hs))
  refine Ord.region (fun W => Has W ([(wz.heap.size, kArr k, 40)])) [9, 10, 13, 14] (by kernel_rfl) (cur.drew.has (by simp)) ?_
  intro hS
  replace cur := cur.drew
  refine Ord.tp 0 14 rfl rfl ?_
  refine Ord.tp 1 15 rfl rfl ?_
  refine Ord.tp 3 17 rfl rfl ?_
  refine Ord.tp 4 18 rfl rfl ?_
  refine Ord.tk 5 19 rfl rfl (yieldsIf_load_mid (by rfl) 40 _ rfl wz.heap.size 0 rfl ([.string k.str, .int .i64 k.sym]) _ (fun W hSW => range_all (hSW.blk 0 rfl)) Tryz.underlying40 rfl Tryz.size40) ?_
  refine Ord.two (i := 2) (j := 11) rfl rfl (by kernel_rfl) (by rfl) (by rfl) ?_ ?_
  · intro K HK
    go_simp
    go_at_call 108
    refine (does_any cur.s).mono ?_
    rintro e wX ⟨rfl, rfl⟩
    refine HK.out _ _ ?_
    clear HK
    refine Ord.kp ?_ ?_
    · exact cur.has (by simp)
    clear hS
    intro hS
    try simp only [List.setIfInBounds_toArray, List.set_cons_zero, List.set_cons_succ]
    refine Ord.two (i := 6) (j := 11) rfl rfl (by kernel_rfl) (by rfl) (by rfl) ?_ ?_
    · intro K HK
      go_simp
      go_at_call 210
      refine (cO _ cur.s cur.k).mono ?_
      rintro e wY ⟨rfl, s9, k9⟩
      replace cur := cur.go s9 k9
      refine HK.out _ _ ?_
      clear HK
      refine Ord.kp ?_ ?_
      · exact cur.has (by simp)
      clear hS
      intro hS
      try simp only [List.setIfInBounds_toArray, List.set_cons_zero, List.set_cons_succ]
      refine Ord.tp 7 13 rfl rfl ?_
      refine Ord.tp 8 21 rfl rfl ?_
      refine Ord.tf 9 22 rfl rfl ?_
      refine Ord.tf 10 23 rfl rfl ?_
      refine Ord.step (i := 11) rfl (by kernel_rfl) (by rfl) ?_
      intro K HK
      refine alloc_op 43 rfl (dArr Dc.d0) zero43 ?_
      intro wh bA hBA hbe hLA
      have hgeA : w.heap.size ≤ bA := by have := cur.k.size; omega
      replace cur := cur.push hLA hBA (Nat.le_of_eq hbe.symm) rfl
      clear hbe hLA hBA
      refine HK.out _ _ ?_
      clear HK
      refine Ord.kp ?_ ?_
      · exact cur.has (by simp)
      clear hS
      intro hS
      try simp only [List.setIfInBounds_toArray, List.set_cons_zero, List.set_cons_succ]
      refine Ord.step (i := 12) rfl (by kernel_rfl) (by rfl) ?_
      intro K HK
      refine store_blk_op 43 (.tmp 10) (.tmp 21) rfl bA (dArr Dc.d0) (dArr Dc.d0) 43 rfl rfl (cur.blk 0 rfl) Tryz.size43 rfl (dCells_one _) ?_
      intro wi hBi hOi
      replace cur := cur.set 0 rfl hOi hBi hgeA
      clear hBi hOi
      refine HK.out _ _ ?_
      clear HK
      refine ⟨Ord.np (by kernel_rfl), ?_⟩
      try simp only [List.setIfInBounds_toArray, List.set_cons_zero, List.set_cons_succ]
      refine Ord.tf 13 11 rfl rfl ?_
      refine Ord.tf 14 12 rfl rfl ?_
      refine Ord.done (by kernel_rfl) ?_ _
      clear hS
      go_wp2
      go_ret2
      exact ⟨rfl, tp, cur.s, cur.k⟩
    · intro K HK
      refine alloc_op 43 rfl (dArr Dc.d0) zero43 ?_
      intro wh bA hBA hbe hLA
      have hgeA : w.heap.size ≤ bA := by have := cur.k.size; omega
      replace cur := cur.push hLA hBA (Nat.le_of_eq hbe.symm) rfl
      clear hbe hLA hBA
      refine HK.out _ _ ?_
      clear HK
      refine Ord.kp ?_ ?_
      · exact cur.has (by simp)
      clear hS
      intro hS
      try simp only [List.setIfInBounds_toArray, List.set_cons_zero, List.set_cons_succ]
      refine Ord.step (i := 6) rfl (by kernel_rfl) (by rfl) ?_
      intro K HK
      go_simp
      go_at_call 210
      refine (cO _ cur.s cur.k).mono ?_
      rintro e wY ⟨rfl, s9, k9⟩
      replace cur := cur.go s9 k9
      refine HK.out _ _ ?_
      clear HK
      refine Ord.kp ?_ ?_
      · exact cur.has (by simp)
      clear hS
      intro hS
      try simp only [List.setIfInBounds_toArray, List.set_cons_zero, List.set_cons_succ]
      refine Ord.tp 7 13 rfl rfl ?_
      refine Ord.tp 8 21 rfl rfl ?_
      refine Ord.tf 9 22 rfl rfl ?_
      refine Ord.tf 10 23 rfl rfl ?_
      refine Ord.step (i := 12) rfl (by kernel_rfl) (by rfl) ?_
      intro K HK
      refine store_blk_op 43 (.tmp 10) (.tmp 21) rfl bA (dArr Dc.d0) (dArr Dc.d0) 43 rfl rfl (cur.blk 0 rfl) Tryz.size43 rfl (dCells_one _) ?_
      intro wi hBi hOi
      replace cur := cur.set 0 rfl hOi hBi hgeA
      clear hBi hOi
      refine HK.out _ _ ?_
      clear HK
      refine ⟨Ord.np (by kernel_rfl), ?_⟩
      try simp only [List.setIfInBounds_toArray, List.set_cons_zero, List.set_cons_succ]
      refine Ord.tf 13 11 rfl rfl ?_
      refine Ord.tf 14 12 rfl rfl ?_
      refine Ord.done (by kernel_rfl) ?_ _
      clear hS
      go_wp2
      go_ret2
      exact ⟨rfl, tp, cur.s, cur.k⟩
  · intro K HK
    refine alloc_op 43 rfl (dArr Dc.d0) zero43 ?_
    intro wh bA hBA hbe hLA
    have hgeA : w.heap.size ≤ bA := by have := cur.k.size; omega
    replace cur := cur.push hLA hBA (Nat.le_of_eq hbe.symm) rfl
    clear hbe hLA hBA
    refine HK.out _ _ ?_
    clear HK
    refine Ord.kp ?_ ?_
    · exact cur.has (by simp)
    clear hS
    intro hS
    try simp only [List.setIfInBounds_toArray, List.set_cons_zero, List.set_cons_succ]
    refine Ord.step (i := 2) rfl (by kernel_rfl) (by rfl) ?_
    intro K HK
    go_simp
    go_at_call 108
    refine (does_any cur.s).mono ?_
    rintro e wX ⟨rfl, rfl⟩
    refine HK.out _ _ ?_
    clear HK
    refine Ord.kp ?_ ?_
    · exact cur.has (by simp)
    clear hS
    intro hS
    try simp only [List.setIfInBounds_toArray, List.set_cons_zero, List.set_cons_succ]
    refine Ord.step (i := 6) rfl (by kernel_rfl) (by rfl) ?_
    intro K HK
    go_simp
    go_at_call 210
    refine (cO _ cur.s cur.k).mono ?_
    rintro e wY ⟨rfl, s9, k9⟩
    replace cur := cur.go s9 k9
    refine HK.out _ _ ?_
    clear HK
    refine Ord.kp ?_ ?_
    · exact cur.has (by simp)
    clear hS
    intro hS
    try simp only [List.setIfInBounds_toArray, List.set_cons_zero, List.set_cons_succ]
    refine Ord.tp 7 13 rfl rfl ?_
    refine Ord.tp 8 21 rfl rfl ?_
    refine Ord.tf 9 22 rfl rfl ?_
    refine Ord.tf 10 23 rfl rfl ?_
    refine Ord.step (i := 12) rfl (by kernel_rfl) (by rfl) ?_
    intro K HK
    refine store_blk_op 43 (.tmp 10) (.tmp 21) rfl bA (dArr Dc.d0) (dArr Dc.d0) 43 rfl rfl (cur.blk 0 rfl) Tryz.size43 rfl (dCells_one _) ?_
    intro wi hBi hOi
    replace cur := cur.set 0 rfl hOi hBi hgeA
    clear hBi hOi
    refine HK.out _ _ ?_
    clear HK
    refine ⟨Ord.np (by kernel_rfl), ?_⟩
    try simp only [List.setIfInBounds_toArray, List.set_cons_zero, List.set_cons_succ]
    refine Ord.tf 13 11 rfl rfl ?_
    refine Ord.tf 14 12 rfl rfl ?_
    refine Ord.done (by kernel_rfl) ?_ _
    clear hS
    go_wp2
    go_ret2
    exact ⟨rfl, tp, cur.s, cur.k⟩

theorem sdel_no {n0 : Nat} {w : World} {hb : Nat} {ov : Value} {ob : Nat} {tp : Option Addr} {cap fuel deep : Int} {kd : Kd} {ext : Bool} {L : List (Ky × Ds)} (s : StX n0 w hb ov ob tp cap fuel deep kd ext L) {xb g uc : Nat} {sb : ByteArray} {A : Option Addr} {U : List Int} (hS : SAt w xb sb g uc A U) (hmv : kd.mv = .iface 103 (.pointer (some ⟨xb, 0, none⟩))) (k : Ky) (d : Ds) (ho : ownS L U k = some d) (hc : d.c = 1) : Calls Tryz.prog 208 #[.agg #[], .pointer (some ⟨hb, 0, none⟩), .int .i64 1, .agg (kArr k)] w fun e w' => DefPost n0 w hb ov ob cap fuel deep kd ext false L e w' := by
  have hm := sGetOwn xb
  have cO : ∀ W, StX n0 W hb ov ob tp cap fuel deep kd ext L → Keeps n0 w W → Calls Tryz.prog 210 #[.pointer (some ⟨xb, 0, none⟩), .pointer (some ⟨hb, 0, none⟩), .int .i64 1, .agg (kArr k)] W fun e w' => Rd (.tuple #[.agg (dArr d), .bool true, .nilIface]) n0 W hb ov ob tp cap fuel deep kd ext L e w' := fun W s hk => by
    have h := sown_any s (hS.keeps hk) k
    unfold rdS at h
    rw [ho] at h
    exact h
  have cur := Bag.start s
  clear s hS ho
  go_enter Tryz.func208, Tryz.ntmps208
  go_wp2_with (first | ((with_reducible show wpList _ _ _ (⟨_, .box 105 _, _, _, _, _⟩ :: _) _ _); refine wpList_box_blk rfl 105 _ rfl (#[]) rfl ?_; intro wz hB hL hs; replace cur := cur.push hL hB (Nat.le_refl _) rfl; clear hB hL hs) | ((with_reducible show wpList _ _ _ (⟨_, .box 40 _, _, _, _, _⟩ :: _) _ _); refine wpList_box_blk rfl 40 _ rfl (kArr k) rfl ?_; intro wk hB hL hs; replace cur := cur.push hL hB (Nat.le_refl _) rfl; clear hB hL hs))
  refine Ord.region (fun W => Has W ([(wz.heap.size, kArr k, 40)])) [9, 10, 13, 14] (by kernel_rfl) (cur.drew.has (by simp)) ?_
  intro hS
  replace cur := cur.drew
  refine Ord.tp 0 14 rfl rfl ?_
  refine Ord.tp 1 15 rfl rfl ?_
  refine Ord.tp 3 17 rfl rfl ?_
  refine Ord.tp 4 18 rfl rfl ?_
  refine Ord.tk 5 19 rfl rfl (yieldsIf_load_mid (by rfl) 40 _ rfl wz.heap.size 0 rfl ([.string k.str, .int .i64 k.sym]) _ (fun W hSW => range_all (hSW.blk 0 rfl)) Tryz.underlying40 rfl Tryz.size40) ?_
  refine Ord.two (i := 2) (j := 11) rfl rfl (by kernel_rfl) (by rfl) (by rfl) ?_ ?_
  · intro K HK
    go_simp
    go_at_call 108
    refine (does_any cur.s).mono ?_
    rintro e wX ⟨rfl, rfl⟩
    refine HK.out _ _ ?_
    clear HK
    refine Ord.kp ?_ ?_
    · exact cur.has (by simp)
    clear hS
    intro hS
    try simp only [List.setIfInBounds_toArray, List.set_cons_zero, List.set_cons_succ]
    refine Ord.two (i := 6) (j := 11) rfl rfl (by kernel_rfl) (by rfl) (by rfl) ?_ ?_
    · intro K HK
      go_simp
      go_at_call 210
      refine (cO _ cur.s cur.k).mono ?_
      rintro e wY ⟨rfl, s9, k9⟩
      replace cur := cur.go s9 k9
      refine HK.out _ _ ?_
      clear HK
      refine Ord.kp ?_ ?_
      · exact cur.has (by simp)
      clear hS
      intro hS
      try simp only [List.setIfInBounds_toArray, List.set_cons_zero, List.set_cons_succ]
      refine Ord.tp 7 13 rfl rfl ?_
      refine Ord.tp 8 21 rfl rfl ?_
      refine Ord.tf 9 22 rfl rfl ?_
      refine Ord.tf 10 23 rfl rfl ?_
      refine Ord.step (i := 11) rfl (by kernel_rfl) (by rfl) ?_
      intro K HK
      refine alloc_op 43 rfl (dArr Dc.d0) zero43 ?_
      intro wh bA hBA hbe hLA
      have hgeA : w.heap.size ≤ bA := by have := cur.k.size; omega
      replace cur := cur.push hLA hBA (Nat.le_of_eq hbe.symm) rfl
      clear hbe hLA hBA
      refine HK.out _ _ ?_
      clear HK
      refine Ord.kp ?_ ?_
      · exact cur.has (by simp)
      clear hS
      intro hS
      try simp only [List.setIfInBounds_toArray, List.set_cons_zero, List.set_cons_succ]
      refine Ord.step (i := 12) rfl (by kernel_rfl) (by rfl) ?_
      intro K HK
      refine store_blk_op 43 (.tmp 10) (.tmp 21) rfl bA (dArr d) (dArr Dc.d0) 43 rfl rfl (cur.blk 0 rfl) Tryz.size43 rfl (dCells_one _) ?_
      intro wi hBi hOi
      replace cur := cur.set 0 rfl hOi hBi hgeA
      clear hBi hOi
      refine HK.out _ _ ?_
      clear HK
      refine ⟨Ord.np (by kernel_rfl), ?_⟩
      try simp only [List.setIfInBounds_toArray, List.set_cons_zero, List.set_cons_succ]
      refine Ord.tf 13 11 rfl rfl ?_
      refine Ord.tf 14 12 rfl rfl ?_
      refine Ord.done (by kernel_rfl) ?_ _
      clear hS
      have hcd := (cur.blk 0 rfl).cellD
      go_wp2
      go_ret2
      exact ⟨rfl, tp, cur.s, cur.k⟩
    · intro K HK
      refine alloc_op 43 rfl (dArr Dc.d0) zero43 ?_
      intro wh bA hBA hbe hLA
      have hgeA : w.heap.size ≤ bA := by have := cur.k.size; omega
      replace cur := cur.push hLA hBA (Nat.le_of_eq hbe.symm) rfl
      clear hbe hLA hBA
      refine HK.out _ _ ?_
      clear HK
      refine Ord.kp ?_ ?_
      · exact cur.has (by simp)
      clear hS
      intro hS
      try simp only [List.setIfInBounds_toArray, List.set_cons_zero, List.set_cons_succ]
      refine Ord.step (i := 6) rfl (by kernel_rfl) (by rfl) ?_
      intro K HK
      go_simp
      go_at_call 210
      refine (cO _ cur.s cur.k).mono ?_
      rintro e wY ⟨rfl, s9, k9⟩
      replace cur := cur.go s9 k9
      refine HK.out _ _ ?_
      clear HK
      refine Ord.kp ?_ ?_
      · exact cur.has (by simp)
      clear hS
      intro hS
      try simp only [List.setIfInBounds_toArray, List.set_cons_zero, List.set_cons_succ]
      refine Ord.tp 7 13 rfl rfl ?_
      refine Ord.tp 8 21 rfl rfl ?_
      refine Ord.tf 9 22 rfl rfl ?_
      refine Ord.tf 10 23 rfl rfl ?_
      refine Ord.step (i := 12) rfl (by kernel_rfl) (by rfl) ?_
      intro K HK
      refine store_blk_op 43 (.tmp 10) (.tmp 21) rfl bA (dArr d) (dArr Dc.d0) 43 rfl rfl (cur.blk 0 rfl) Tryz.size43 rfl (dCells_one _) ?_
      intro wi hBi hOi
      replace cur := cur.set 0 rfl hOi hBi hgeA
      clear hBi hOi
      refine HK.out _ _ ?_
      clear HK
      refine ⟨Ord.np (by kernel_rfl), ?_⟩
      try simp only [List.setIfInBounds_toArray, List.set_cons_zero, List.set_cons_succ]
      refine Ord.tf 13 11 rfl rfl ?_
      refine Ord.tf 14 12 rfl rfl ?_
      refine Ord.done (by kernel_rfl) ?_ _
      clear hS
      have hcd := (cur.blk 0 rfl).cellD
      go_wp2
      go_ret2
      exact ⟨rfl, tp, cur.s, cur.k⟩
  · intro K HK
    refine alloc_op 43 rfl (dArr Dc.d0) zero43 ?_
    intro wh bA hBA hbe hLA
    have hgeA : w.heap.size ≤ bA := by have := cur.k.size; omega
    replace cur := cur.push hLA hBA (Nat.le_of_eq hbe.symm) rfl
    clear hbe hLA hBA
    refine HK.out _ _ ?_
    clear HK
    refine Ord.kp ?_ ?_
    · exact cur.has (by simp)
    clear hS
    intro hS
    try simp only [List.setIfInBounds_toArray, List.set_cons_zero, List.set_cons_succ]
    refine Ord.step (i := 2) rfl (by kernel_rfl) (by rfl) ?_
    intro K HK
    go_simp
    go_at_call 108
    refine (does_any cur.s).mono ?_
    rintro e wX ⟨rfl, rfl⟩
    refine HK.out _ _ ?_
    clear HK
    refine Ord.kp ?_ ?_
    · exact cur.has (by simp)
    clear hS
    intro hS
    try simp only [List.setIfInBounds_toArray, List.set_cons_zero, List.set_cons_succ]
    refine Ord.step (i := 6) rfl (by kernel_rfl) (by rfl) ?_
    intro K HK
    go_simp
    go_at_call 210
    refine (cO _ cur.s cur.k).mono ?_
    rintro e wY ⟨rfl, s9, k9⟩
    replace cur := cur.go s9 k9
    refine HK.out _ _ ?_
    clear HK
    refine Ord.kp ?_ ?_
    · exact cur.has (by simp)
    clear hS
    intro hS
    try simp only [List.setIfInBounds_toArray, List.set_cons_zero, List.set_cons_succ]
    refine Ord.tp 7 13 rfl rfl ?_
    refine Ord.tp 8 21 rfl rfl ?_
    refine Ord.tf 9 22 rfl rfl ?_
    refine Ord.tf 10 23 rfl rfl ?_
    refine Ord.step (i := 12) rfl (by kernel_rfl) (by rfl) ?_
    intro K HK
    refine store_blk_op 43 (.tmp 10) (.tmp 21) rfl bA (dArr d) (dArr Dc.d0) 43 rfl rfl (cur.blk 0 rfl) Tryz.size43 rfl (dCells_one _) ?_
    intro wi hBi hOi
    replace cur := cur.set 0 rfl hOi hBi hgeA
    clear hBi hOi
    refine HK.out _ _ ?_
    clear HK
    refine ⟨Ord.np (by kernel_rfl), ?_⟩
    try simp only [List.setIfInBounds_toArray, List.set_cons_zero, List.set_cons_succ]
    refine Ord.tf 13 11 rfl rfl ?_
    refine Ord.tf 14 12 rfl rfl ?_
    refine Ord.done (by kernel_rfl) ?_ _
    clear hS
    have hcd := (cur.blk 0 rfl).cellD
    go_wp2
    go_ret2
    exact ⟨rfl, tp, cur.s, cur.k⟩

theorem sdel_yes {n0 : Nat} {w : World} {hb : Nat} {ov : Value} {ob : Nat} {tp : Option Addr} {cap fuel deep : Int} {kd : Kd} {ext : Bool} {L : List (Ky × Ds)} (s : StX n0 w hb ov ob tp cap fuel deep kd ext L) {xb g uc : Nat} {sb : ByteArray} {A : Option Addr} {U : List Int} (hS : SAt w xb sb g uc A U) (hmv : kd.mv = .iface 103 (.pointer (some ⟨xb, 0, none⟩))) (k : Ky) (d : Ds) (ho : ownS L U k = some d) (hc : ¬ d.c = 1) (hk : getL L k ≠ none) (hne : delL L k ≠ []) : Calls Tryz.prog 208 #[.agg #[], .pointer (some ⟨hb, 0, none⟩), .int .i64 1, .agg (kArr k)] w fun e w' => DefPost n0 w hb ov ob cap fuel deep kd ext true (delL L k) e w' := by
  have hm := sGetOwn xb
  have HK := Lib.hid (And.intro hk hne)
  have cO : ∀ W, StX n0 W hb ov ob tp cap fuel deep kd ext L → Keeps n0 w W → Calls Tryz.prog 210 #[.pointer (some ⟨xb, 0, none⟩), .pointer (some ⟨hb, 0, none⟩), .int .i64 1, .agg (kArr k)] W fun e w' => Rd (.tuple #[.agg (dArr d), .bool true, .nilIface]) n0 W hb ov ob tp cap fuel deep kd ext L e w' := fun W s hk => by
    have h := sown_any s (hS.keeps hk) k
    unfold rdS at h
    rw [ho] at h
    exact h
  have cur := Bag.start s
  clear s hS ho
  go_enter Tryz.func208, Tryz.ntmps208
  go_wp2_with (first | ((with_reducible show wpList _ _ _ (⟨_, .box 105 _, _, _, _, _⟩ :: _) _ _); refine wpList_box_blk rfl 105 _ rfl (#[]) rfl ?_; intro wz hB hL hs; replace cur := cur.push hL hB (Nat.le_refl _) rfl; clear hB hL hs) | ((with_reducible show wpList _ _ _ (⟨_, .box 40 _, _, _, _, _⟩ :: _) _ _); refine wpList_box_blk rfl 40 _ rfl (kArr k) rfl ?_; intro wk hB hL hs; replace cur := cur.push hL hB (Nat.le_refl _) rfl; clear hB hL hs))
  refine Ord.region (fun W => Has W ([(wz.heap.size, kArr k, 40)])) [9, 10, 13, 14] (by kernel_rfl) (cur.drew.has (by simp)) ?_
  intro hS
  replace cur := cur.drew
  refine Ord.tp 0 14 rfl rfl ?_
  refine Ord.tp 1 15 rfl rfl ?_
  refine Ord.tp 3 17 rfl rfl ?_
  refine Ord.tp 4 18 rfl rfl ?_
  refine Ord.tk 5 19 rfl rfl (yieldsIf_load_mid (by rfl) 40 _ rfl wz.heap.size 0 rfl ([.string k.str, .int .i64 k.sym]) _ (fun W hSW => range_all (hSW.blk 0 rfl)) Tryz.underlying40 rfl Tryz.size40) ?_
  refine Ord.two (i := 2) (j := 11) rfl rfl (by kernel_rfl) (by rfl) (by rfl) ?_ ?_
  · intro K HK
    go_simp
    go_at_call 108
    refine (does_any cur.s).mono ?_
    rintro e wX ⟨rfl, rfl⟩
    refine HK.out _ _ ?_
    clear HK
    refine Ord.kp ?_ ?_
    · exact cur.has (by simp)
    clear hS
    intro hS
    try simp only [List.setIfInBounds_toArray, List.set_cons_zero, List.set_cons_succ]
    refine Ord.two (i := 6) (j := 11) rfl rfl (by kernel_rfl) (by rfl) (by rfl) ?_ ?_
    · intro K HK
      go_simp
      go_at_call 210
      refine (cO _ cur.s cur.k).mono ?_
      rintro e wY ⟨rfl, s9, k9⟩
      replace cur := cur.go s9 k9
      refine HK.out _ _ ?_
      clear HK
      refine Ord.kp ?_ ?_
      · exact cur.has (by simp)
      clear hS
      intro hS
      try simp only [List.setIfInBounds_toArray, List.set_cons_zero, List.set_cons_succ]
      refine Ord.tp 7 13 rfl rfl ?_
      refine Ord.tp 8 21 rfl rfl ?_
      refine Ord.tf 9 22 rfl rfl ?_
      refine Ord.tf 10 23 rfl rfl ?_
      refine Ord.step (i := 11) rfl (by kernel_rfl) (by rfl) ?_
      intro K HK
      refine alloc_op 43 rfl (dArr Dc.d0) zero43 ?_
      intro wh bA hBA hbe hLA
      have hgeA : w.heap.size ≤ bA := by have := cur.k.size; omega
      replace cur := cur.push hLA hBA (Nat.le_of_eq hbe.symm) rfl
      clear hbe hLA hBA
      refine HK.out _ _ ?_
      clear HK
      refine Ord.kp ?_ ?_
      · exact cur.has (by simp)
      clear hS
      intro hS
      try simp only [List.setIfInBounds_toArray, List.set_cons_zero, List.set_cons_succ]
      refine Ord.step (i := 12) rfl (by kernel_rfl) (by rfl) ?_
      intro K HK
      refine store_blk_op 43 (.tmp 10) (.tmp 21) rfl bA (dArr d) (dArr Dc.d0) 43 rfl rfl (cur.blk 0 rfl) Tryz.size43 rfl (dCells_one _) ?_
      intro wi hBi hOi
      replace cur := cur.set 0 rfl hOi hBi hgeA
      clear hBi hOi
      refine HK.out _ _ ?_
      clear HK
      refine ⟨Ord.np (by kernel_rfl), ?_⟩
      try simp only [List.setIfInBounds_toArray, List.set_cons_zero, List.set_cons_succ]
      refine Ord.tf 13 11 rfl rfl ?_
      refine Ord.tf 14 12 rfl rfl ?_
      refine Ord.done (by kernel_rfl) ?_ _
      clear hS
      have hcd := (cur.blk 0 rfl).cellD
      go_wp2_with (first | ((with_reducible show wpList _ _ _ (⟨_, .load 40 (.tmp 7), _, _, _, _⟩ :: _) _ _); refine wpList_load_blk rfl 40 _ rfl _ rfl (cur.blk 1 rfl) Tryz.row40 Tryz.size40 ?_) | (go_at_call 222; refine (drop_any cur.s k HK.out.1 HK.out.2).mono ?_; rintro e wj ⟨rfl, s9, k9⟩; replace cur := cur.go s9 k9))
      go_ret2
      exact ⟨rfl, tp, cur.s, cur.k⟩
    · intro K HK
      refine alloc_op 43 rfl (dArr Dc.d0) zero43 ?_
      intro wh bA hBA hbe hLA
      have hgeA : w.heap.size ≤ bA := by have := cur.k.size; omega
      replace cur := cur.push hLA hBA (Nat.le_of_eq hbe.symm) rfl
      clear hbe hLA hBA
      refine HK.out _ _ ?_
      clear HK
      refine Ord.kp ?_ ?_
      · exact cur.has (by simp)
      clear hS
      intro hS
      try simp only [List.setIfInBounds_toArray, List.set_cons_zero, List.set_cons_succ]
      refine Ord.step (i := 6) rfl (by kernel_rfl) (by rfl) ?_
      intro K HK
      go_simp
      go_at_call 210
      refine (cO _ cur.s cur.k).mono ?_
      rintro e wY ⟨rfl, s9, k9⟩
      replace cur := cur.go s9 k9
      refine HK.out _ _ ?_
      clear HK
      refine Ord.kp ?_ ?_
      · exact cur.has (by simp)
      clear hS
      intro hS
      try simp only [List.setIfInBounds_toArray, List.set_cons_zero, List.set_cons_succ]
      refine Ord.tp 7 13 rfl rfl ?_
      refine Ord.tp 8 21 rfl rfl ?_
      refine Ord.tf 9 22 rfl rfl ?_
      refine Ord.tf 10 23 rfl rfl ?_
      refine Ord.step (i := 12) rfl (by kernel_rfl) (by rfl) ?_
      intro K HK
      refine store_blk_op 43 (.tmp 10) (.tmp 21) rfl bA (dArr d) (dArr Dc.d0) 43 rfl rfl (cur.blk 0 rfl) Tryz.size43 rfl (dCells_one _) ?_
      intro wi hBi hOi
      replace cur := cur.set 0 rfl hOi hBi hgeA
      clear hBi hOi
      refine HK.out _ _ ?_
      clear HK
      refine ⟨Ord.np (by kernel_rfl), ?_⟩
      try simp only [List.setIfInBounds_toArray, List.set_cons_zero, List.set_cons_succ]
      refine Ord.tf 13 11 rfl rfl ?_
      refine Ord.tf 14 12 rfl rfl ?_
      refine Ord.done (by kernel_rfl) ?_ _
      clear hS
      have hcd := (cur.blk 0 rfl).cellD
      go_wp2_with (first | ((with_reducible show wpList _ _ _ (⟨_, .load 40 (.tmp 7), _, _, _, _⟩ :: _) _ _); refine wpList_load_blk rfl 40 _ rfl _ rfl (cur.blk 1 rfl) Tryz.row40 Tryz.size40 ?_) | (go_at_call 222; refine (drop_any cur.s k HK.out.1 HK.out.2).mono ?_; rintro e wj ⟨rfl, s9, k9⟩; replace cur := cur.go s9 k9))
      go_ret2
      exact ⟨rfl, tp, cur.s, cur.k⟩
  · intro K HK
    refine alloc_op 43 rfl (dArr Dc.d0) zero43 ?_
    intro wh bA hBA hbe hLA
    have hgeA : w.heap.size ≤ bA := by have := cur.k.size; omega
    replace cur := cur.push hLA hBA (Nat.le_of_eq hbe.symm) rfl
    clear hbe hLA hBA
    refine HK.out _ _ ?_
    clear HK
    refine Ord.kp ?_ ?_
    · exact cur.has (by simp)
    clear hS
    intro hS
    try simp only [List.setIfInBounds_toArray, List.set_cons_zero, List.set_cons_succ]
    refine Ord.step (i := 2) rfl (by kernel_rfl) (by rfl) ?_
    intro K HK
    go_simp
    go_at_call 108
    refine (does_any cur.s).mono ?_
    rintro e wX ⟨rfl, rfl⟩
    refine HK.out _ _ ?_
    clear HK
    refine Ord.kp ?_ ?_
    · exact cur.has (by simp)
    clear hS
    intro hS
    try simp only [List.setIfInBounds_toArray, List.set_cons_zero, List.set_cons_succ]
    refine Ord.step (i := 6) rfl (by kernel_rfl) (by rfl) ?_
    intro K HK
    go_simp
    go_at_call 210
    refine (cO _ cur.s cur.k).mono ?_
    rintro e wY ⟨rfl, s9, k9⟩
    replace cur := cur.go s9 k9
    refine HK.out _ _ ?_
    clear HK
    refine Ord.kp ?_ ?_
    · exact cur.has (by simp)
    clear hS
    intro hS
    try simp only [List.setIfInBounds_toArray, List.set_cons_zero, List.set_cons_succ]
    refine Ord.tp 7 13 rfl rfl ?_
    refine Ord.tp 8 21 rfl rfl ?_
    refine Ord.tf 9 22 rfl rfl ?_
    refine Ord.tf 10 23 rfl rfl ?_
    refine Ord.step (i := 12) rfl (by kernel_rfl) (by rfl) ?_
    intro K HK
    refine store_blk_op 43 (.tmp 10) (.tmp 21) rfl bA (dArr d) (dArr Dc.d0) 43 rfl rfl (cur.blk 0 rfl) Tryz.size43 rfl (dCells_one _) ?_
    intro wi hBi hOi
    replace cur := cur.set 0 rfl hOi hBi hgeA
    clear hBi hOi
    refine HK.out _ _ ?_
    clear HK
    refine ⟨Ord.np (by kernel_rfl), ?_⟩
    try simp only [List.setIfInBounds_toArray, List.set_cons_zero, List.set_cons_succ]
    refine Ord.tf 13 11 rfl rfl ?_
    refine Ord.tf 14 12 rfl rfl ?_
    refine Ord.done (by kernel_rfl) ?_ _
    clear hS
    have hcd := (cur.blk 0 rfl).cellD
    go_wp2_with (first | ((with_reducible show wpList _ _ _ (⟨_, .load 40 (.tmp 7), _, _, _, _⟩ :: _) _ _); refine wpList_load_blk rfl 40 _ rfl _ rfl (cur.blk 1 rfl) Tryz.row40 Tryz.size40 ?_) | (go_at_call 222; refine (drop_any cur.s k HK.out.1 HK.out.2).mono ?_; rintro e wj ⟨rfl, s9, k9⟩; replace cur := cur.go s9 k9))
    go_ret2
    exact ⟨rfl, tp, cur.s, cur.k⟩


end Go.Proofs.YtoalboilghgalaaGreatDoor

/- An ordinary object's Get, of a String object: of a data property. -/
namespace Go.Proofs.YtoalboilghgalaaGreatDoor
open Go.RowKit
open Go.Proofs.Dc (V Ds Ky)
attribute [local go_sem] run_store_float

theorem data_any (d : Ds) (w : World) (hT : Tabs w) (hd : Nums d) : Calls Tryz.prog 225 #[.agg (dArr d)] w fun e w' => e = .returned (.bool (Dc.kindB uvalid d && Dc.kindN uvalid d == 1)) ∧ Below w.heap.size w w' := by
  have cK := fun W (h : Below w.heap.size w W) => is_any d 1 W (hT.below h) hd
  clear hT hd
  generalize (Dc.kindB uvalid d && Dc.kindN uvalid d == 1) = R at *
  go_enter Tryz.func225, Tryz.ntmps225
  go_wp2_with (first | ((with_reducible show wpList _ _ _ (⟨_, .box 43 _, _, _, _, _⟩ :: _) _ _); refine wpList_box_blk rfl 43 _ rfl (dArr d) rfl ?_; intro w0 hB0 hL hs0; clear hs0) | ((with_reducible show wpList _ _ _ (⟨_, .load 43 _, _, _, _, _⟩ :: _) _ _); refine wpList_load_blk rfl 43 _ rfl (w.heap.size) rfl (show Blk _ (w.heap.size) (dArr d) 43 from by assumption) Tryz.row43 Tryz.size43 ?_) | (go_at_call 126; refine (cK _ (by assumption)).mono ?_; rintro e u ⟨rfl, hb⟩; have hK0 := (show Blk _ w.heap.size (dArr d) 43 from by assumption).next hb; have hc0 := hK0.cellD; have hL := more (show Below w.heap.size w _ from by assumption) hb))
  go_ret
  exact ⟨rfl, by assumption⟩
theorem sget_data {n0 : Nat} {w : World} {hb : Nat} {ov : Value} {ob : Nat} {tp : Option Addr} {cap fuel deep : Int} {kd : Kd} {ext : Bool} {L : List (Ky × Ds)} (s : StX n0 w hb ov ob tp cap fuel deep kd ext L) {xb g uc : Nat} {sb : ByteArray} {A : Option Addr} {U : List Int} (hS : SAt w xb sb g uc A U) (hmv : kd.mv = .iface 103 (.pointer (some ⟨xb, 0, none⟩))) (k : Ky) (rv : V) (d : Ds) (ho : ownS L U k = some d) (hdt : (Dc.kindB uvalid d && Dc.kindN uvalid d == 1) = true) (hnd : Nums d) : Calls Tryz.prog 209 #[.agg #[], .pointer (some ⟨hb, 0, none⟩), .int .i64 1, .agg (kArr k), .agg (vArr rv)] w fun e w' => Rd (.tuple #[.agg (vArr d.val), .nilIface]) n0 w hb ov ob tp cap fuel deep kd ext L e w' := by
  have hm := sGetOwn xb
  have cD : ∀ W, Tabs W → Calls Tryz.prog 225 #[.agg (dArr d)] W fun e w' => e = .returned (.bool true) ∧ Below W.heap.size W w' := fun W h => by
    have := data_any d W h hnd
    rw [hdt] at this
    exact this
  have cO : ∀ W, StX n0 W hb ov ob tp cap fuel deep kd ext L → Keeps n0 w W → Calls Tryz.prog 210 #[.pointer (some ⟨xb, 0, none⟩), .pointer (some ⟨hb, 0, none⟩), .int .i64 1, .agg (kArr k)] W fun e w' => Rd (.tuple #[.agg (dArr d), .bool true, .nilIface]) n0 W hb ov ob tp cap fuel deep kd ext L e w' := fun W s hk => by
    have h := sown_any s (hS.keeps hk) k
    unfold rdS at h
    rw [ho] at h
    exact h
  have cur := Bag.start s
  clear s hS ho hdt hnd
  go_enter Tryz.func209, Tryz.ntmps209
  go_wp2_with (first | ((with_reducible show wpList _ _ _ (⟨_, .box 105 _, _, _, _, _⟩ :: _) _ _); refine wpList_box_blk rfl 105 _ rfl (#[]) rfl ?_; intro wz hB hL hs; replace cur := cur.push hL hB (Nat.le_refl _) rfl; clear hB hL hs) | ((with_reducible show wpList _ _ _ (⟨_, .box 40 _, _, _, _, _⟩ :: _) _ _); refine wpList_box_blk rfl 40 _ rfl (kArr k) rfl ?_; intro wk hB hL hs; replace cur := cur.push hL hB (Nat.le_refl _) rfl; clear hB hL hs) | ((with_reducible show wpList _ _ _ (⟨_, .box 36 _, _, _, _, _⟩ :: _) _ _); refine wpList_box_blk rfl 36 _ rfl (vArr rv) rfl ?_; intro wv hB hL hs; replace cur := cur.push hL hB (Nat.le_refl _) rfl; clear hB hL hs) | ((with_reducible show wpList _ _ _ (⟨some 10, .alloc 36, _, _, _, _⟩ :: _) _ _); refine wpList_alloc_blk rfl 36 rfl (vArr Dc.v0) zero36 ?_; intro wr hB hL hs; have hler := cur.k.size; replace cur := cur.push hL hB (Nat.le_refl _) rfl; clear hB hL hs))
  refine Ord.region (fun W => Has W ([(wz.heap.size, kArr k, 40)])) [9, 10, 13, 14] (by kernel_rfl) (cur.drew.has (by simp)) ?_
  intro hS
  replace cur := cur.drew
  refine Ord.tp 0 17 rfl rfl ?_
  refine Ord.tp 1 18 rfl rfl ?_
  refine Ord.tp 3 20 rfl rfl ?_
  refine Ord.tp 4 21 rfl rfl ?_
  refine Ord.tk 5 22 rfl rfl (yieldsIf_load_mid (by rfl) 40 _ rfl wz.heap.size 0 rfl ([.string k.str, .int .i64 k.sym]) _ (fun W hSW => range_all (hSW.blk 0 rfl)) Tryz.underlying40 rfl Tryz.size40) ?_
  refine Ord.two (i := 2) (j := 11) rfl rfl (by kernel_rfl) (by rfl) (by rfl) ?_ ?_
  · intro K HK
    go_simp
    go_at_call 108
    refine (does_any cur.s).mono ?_
    rintro e wX ⟨rfl, rfl⟩
    refine HK.out _ _ ?_
    clear HK
    refine Ord.kp ?_ ?_
    · exact cur.has (by simp)
    clear hS
    intro hS
    try simp only [List.setIfInBounds_toArray, List.set_cons_zero, List.set_cons_succ]
    refine Ord.two (i := 6) (j := 11) rfl rfl (by kernel_rfl) (by rfl) (by rfl) ?_ ?_
    · intro K HK
      go_simp
      go_at_call 210
      refine (cO _ cur.s cur.k).mono ?_
      rintro e wY ⟨rfl, s9, k9⟩
      replace cur := cur.go s9 k9
      refine HK.out _ _ ?_
      clear HK
      refine Ord.kp ?_ ?_
      · exact cur.has (by simp)
      clear hS
      intro hS
      try simp only [List.setIfInBounds_toArray, List.set_cons_zero, List.set_cons_succ]
      refine Ord.tp 7 16 rfl rfl ?_
      refine Ord.tp 8 24 rfl rfl ?_
      refine Ord.tf 9 25 rfl rfl ?_
      refine Ord.tf 10 26 rfl rfl ?_
      refine Ord.step (i := 11) rfl (by kernel_rfl) (by rfl) ?_
      intro K HK
      refine alloc_op 43 rfl (dArr Dc.d0) zero43 ?_
      intro wh bA hBA hbe hLA
      have hgeA : w.heap.size ≤ bA := by have := cur.k.size; omega
      replace cur := cur.push hLA hBA (Nat.le_of_eq hbe.symm) rfl
      clear hbe hLA hBA
      refine HK.out _ _ ?_
      clear HK
      refine Ord.kp ?_ ?_
      · exact cur.has (by simp)
      clear hS
      intro hS
      try simp only [List.setIfInBounds_toArray, List.set_cons_zero, List.set_cons_succ]
      refine Ord.step (i := 12) rfl (by kernel_rfl) (by rfl) ?_
      intro K HK
      refine store_blk_op 43 (.tmp 12) (.tmp 24) rfl bA (dArr d) (dArr Dc.d0) 43 rfl rfl (cur.blk 0 rfl) Tryz.size43 rfl (dCells_one _) ?_
      intro wi hBi hOi
      replace cur := cur.set 0 rfl hOi hBi hgeA
      clear hBi hOi
      refine HK.out _ _ ?_
      clear HK
      refine ⟨Ord.np (by kernel_rfl), ?_⟩
      try simp only [List.setIfInBounds_toArray, List.set_cons_zero, List.set_cons_succ]
      refine Ord.tf 13 13 rfl rfl ?_
      refine Ord.tf 14 14 rfl rfl ?_
      refine Ord.done (by kernel_rfl) ?_ _
      clear hS
      go_wp2_with (first | ((with_reducible show wpList _ _ _ (⟨_, .load 43 (.tmp 12), _, _, _, _⟩ :: _) _ _); refine wpList_load_blk rfl 43 _ rfl _ rfl (cur.blk 0 rfl) Tryz.row43 Tryz.size43 ?_) | (go_at_call 225; refine (cD _ cur.s.tabs).mono ?_; rintro e wq ⟨rfl, hb'⟩; replace cur := cur.next hb'; clear hb') | ((with_reducible show wpList _ _ _ (⟨_, .load 36 _, _, _, _, _⟩ :: _) _ _); refine wpList_load_mid rfl 36 _ rfl bA 0 rfl (vArr d.val).toList _ (range_val (cur.blk 0 rfl)) Tryz.underlying36 rfl Tryz.size36 ?_) | ((with_reducible show wpList _ _ _ (⟨_, .store 36 (.tmp 10) _, _, _, _, _⟩ :: _) _ _); refine wpList_store_blk rfl 36 _ _ rfl _ (vArr d.val) _ 36 rfl rfl (cur.blk 1 rfl) Tryz.size36 rfl (vArr_one _) ?_; intro wg hB hO; replace cur := cur.set 1 rfl hO hB hler; clear hB hO))
      exact bodyPost_ret (results_cell_tmp Tryz.results209 rfl (cur.blk 1 rfl) Tryz.row36 Tryz.size36) rfl ⟨rfl, cur.s, cur.k⟩
    · intro K HK
      refine alloc_op 43 rfl (dArr Dc.d0) zero43 ?_
      intro wh bA hBA hbe hLA
      have hgeA : w.heap.size ≤ bA := by have := cur.k.size; omega
      replace cur := cur.push hLA hBA (Nat.le_of_eq hbe.symm) rfl
      clear hbe hLA hBA
      refine HK.out _ _ ?_
      clear HK
      refine Ord.kp ?_ ?_
      · exact cur.has (by simp)
      clear hS
      intro hS
      try simp only [List.setIfInBounds_toArray, List.set_cons_zero, List.set_cons_succ]
      refine Ord.step (i := 6) rfl (by kernel_rfl) (by rfl) ?_
      intro K HK
      go_simp
      go_at_call 210
      refine (cO _ cur.s cur.k).mono ?_
      rintro e wY ⟨rfl, s9, k9⟩
      replace cur := cur.go s9 k9
      refine HK.out _ _ ?_
      clear HK
      refine Ord.kp ?_ ?_
      · exact cur.has (by simp)
      clear hS
      intro hS
      try simp only [List.setIfInBounds_toArray, List.set_cons_zero, List.set_cons_succ]
      refine Ord.tp 7 16 rfl rfl ?_
      refine Ord.tp 8 24 rfl rfl ?_
      refine Ord.tf 9 25 rfl rfl ?_
      refine Ord.tf 10 26 rfl rfl ?_
      refine Ord.step (i := 12) rfl (by kernel_rfl) (by rfl) ?_
      intro K HK
      refine store_blk_op 43 (.tmp 12) (.tmp 24) rfl bA (dArr d) (dArr Dc.d0) 43 rfl rfl (cur.blk 0 rfl) Tryz.size43 rfl (dCells_one _) ?_
      intro wi hBi hOi
      replace cur := cur.set 0 rfl hOi hBi hgeA
      clear hBi hOi
      refine HK.out _ _ ?_
      clear HK
      refine ⟨Ord.np (by kernel_rfl), ?_⟩
      try simp only [List.setIfInBounds_toArray, List.set_cons_zero, List.set_cons_succ]
      refine Ord.tf 13 13 rfl rfl ?_
      refine Ord.tf 14 14 rfl rfl ?_
      refine Ord.done (by kernel_rfl) ?_ _
      clear hS
      go_wp2_with (first | ((with_reducible show wpList _ _ _ (⟨_, .load 43 (.tmp 12), _, _, _, _⟩ :: _) _ _); refine wpList_load_blk rfl 43 _ rfl _ rfl (cur.blk 0 rfl) Tryz.row43 Tryz.size43 ?_) | (go_at_call 225; refine (cD _ cur.s.tabs).mono ?_; rintro e wq ⟨rfl, hb'⟩; replace cur := cur.next hb'; clear hb') | ((with_reducible show wpList _ _ _ (⟨_, .load 36 _, _, _, _, _⟩ :: _) _ _); refine wpList_load_mid rfl 36 _ rfl bA 0 rfl (vArr d.val).toList _ (range_val (cur.blk 0 rfl)) Tryz.underlying36 rfl Tryz.size36 ?_) | ((with_reducible show wpList _ _ _ (⟨_, .store 36 (.tmp 10) _, _, _, _, _⟩ :: _) _ _); refine wpList_store_blk rfl 36 _ _ rfl _ (vArr d.val) _ 36 rfl rfl (cur.blk 1 rfl) Tryz.size36 rfl (vArr_one _) ?_; intro wg hB hO; replace cur := cur.set 1 rfl hO hB hler; clear hB hO))
      exact bodyPost_ret (results_cell_tmp Tryz.results209 rfl (cur.blk 1 rfl) Tryz.row36 Tryz.size36) rfl ⟨rfl, cur.s, cur.k⟩
  · intro K HK
    refine alloc_op 43 rfl (dArr Dc.d0) zero43 ?_
    intro wh bA hBA hbe hLA
    have hgeA : w.heap.size ≤ bA := by have := cur.k.size; omega
    replace cur := cur.push hLA hBA (Nat.le_of_eq hbe.symm) rfl
    clear hbe hLA hBA
    refine HK.out _ _ ?_
    clear HK
    refine Ord.kp ?_ ?_
    · exact cur.has (by simp)
    clear hS
    intro hS
    try simp only [List.setIfInBounds_toArray, List.set_cons_zero, List.set_cons_succ]
    refine Ord.step (i := 2) rfl (by kernel_rfl) (by rfl) ?_
    intro K HK
    go_simp
    go_at_call 108
    refine (does_any cur.s).mono ?_
    rintro e wX ⟨rfl, rfl⟩
    refine HK.out _ _ ?_
    clear HK
    refine Ord.kp ?_ ?_
    · exact cur.has (by simp)
    clear hS
    intro hS
    try simp only [List.setIfInBounds_toArray, List.set_cons_zero, List.set_cons_succ]
    refine Ord.step (i := 6) rfl (by kernel_rfl) (by rfl) ?_
    intro K HK
    go_simp
    go_at_call 210
    refine (cO _ cur.s cur.k).mono ?_
    rintro e wY ⟨rfl, s9, k9⟩
    replace cur := cur.go s9 k9
    refine HK.out _ _ ?_
    clear HK
    refine Ord.kp ?_ ?_
    · exact cur.has (by simp)
    clear hS
    intro hS
    try simp only [List.setIfInBounds_toArray, List.set_cons_zero, List.set_cons_succ]
    refine Ord.tp 7 16 rfl rfl ?_
    refine Ord.tp 8 24 rfl rfl ?_
    refine Ord.tf 9 25 rfl rfl ?_
    refine Ord.tf 10 26 rfl rfl ?_
    refine Ord.step (i := 12) rfl (by kernel_rfl) (by rfl) ?_
    intro K HK
    refine store_blk_op 43 (.tmp 12) (.tmp 24) rfl bA (dArr d) (dArr Dc.d0) 43 rfl rfl (cur.blk 0 rfl) Tryz.size43 rfl (dCells_one _) ?_
    intro wi hBi hOi
    replace cur := cur.set 0 rfl hOi hBi hgeA
    clear hBi hOi
    refine HK.out _ _ ?_
    clear HK
    refine ⟨Ord.np (by kernel_rfl), ?_⟩
    try simp only [List.setIfInBounds_toArray, List.set_cons_zero, List.set_cons_succ]
    refine Ord.tf 13 13 rfl rfl ?_
    refine Ord.tf 14 14 rfl rfl ?_
    refine Ord.done (by kernel_rfl) ?_ _
    clear hS
    go_wp2_with (first | ((with_reducible show wpList _ _ _ (⟨_, .load 43 (.tmp 12), _, _, _, _⟩ :: _) _ _); refine wpList_load_blk rfl 43 _ rfl _ rfl (cur.blk 0 rfl) Tryz.row43 Tryz.size43 ?_) | (go_at_call 225; refine (cD _ cur.s.tabs).mono ?_; rintro e wq ⟨rfl, hb'⟩; replace cur := cur.next hb'; clear hb') | ((with_reducible show wpList _ _ _ (⟨_, .load 36 _, _, _, _, _⟩ :: _) _ _); refine wpList_load_mid rfl 36 _ rfl bA 0 rfl (vArr d.val).toList _ (range_val (cur.blk 0 rfl)) Tryz.underlying36 rfl Tryz.size36 ?_) | ((with_reducible show wpList _ _ _ (⟨_, .store 36 (.tmp 10) _, _, _, _, _⟩ :: _) _ _); refine wpList_store_blk rfl 36 _ _ rfl _ (vArr d.val) _ 36 rfl rfl (cur.blk 1 rfl) Tryz.size36 rfl (vArr_one _) ?_; intro wg hB hO; replace cur := cur.set 1 rfl hO hB hler; clear hB hO))
    exact bodyPost_ret (results_cell_tmp Tryz.results209 rfl (cur.blk 1 rfl) Tryz.row36 Tryz.size36) rfl ⟨rfl, cur.s, cur.k⟩


end Go.Proofs.YtoalboilghgalaaGreatDoor

/- An ordinary object's Set, of a String object that receives itself. -/
namespace Go.Proofs.YtoalboilghgalaaGreatDoor
open Go.RowKit
open Go.Proofs.Dc (V Ds Ky)
attribute [local go_sem] run_store_float

theorem SetPost.from {fuel : Int} {L' : List (Ky × Ds)} {n0 : Nat} {w W : World} {hb : Nat} {ov : Value} {ob : Nat} {cap f deep : Int} {kd : Kd} {ext b : Bool} {e : Ending} {w' : World} (h : SetPost fuel L' n0 W hb ov ob cap f deep kd ext b e w') (k : Keeps n0 w W) : SetPost fuel L' n0 w hb ov ob cap f deep kd ext b e w' := by
  obtain ⟨tp, h1, h2, h3, h4⟩ := h
  exact ⟨tp, h1, h2, k.trans h3, h4⟩

theorem set_some {n0 : Nat} {w : World} {hb : Nat} {ov : Value} {ob : Nat} {tp : Option Addr} {cap fuel deep : Int} {kd : Kd} {ext : Bool} {L : List (Ky × Ds)} (s : StX n0 w hb ov ob tp cap fuel deep kd ext L) {xb g uc : Nat} {sb : ByteArray} {A : Option Addr} {U : List Int} (hQ : SAt w xb sb g uc A U) (hmv : kd.mv = .iface 103 (.pointer (some ⟨xb, 0, none⟩))) (hf : Can fuel deep kd) (k : Ky) (v : V) (d : Ds) (ho : ownS L U k = some d) (L' : List (Ky × Ds)) (f : Int) (b : Bool) (cS : ∀ W, StX n0 W hb ov ob tp cap fuel deep kd ext L → Keeps n0 w W → Calls Tryz.prog 229 #[.pointer (some ⟨hb, 0, none⟩), .agg (dArr (d)), .agg (kArr k), .agg (vArr v), .agg (vArr vR1)] W (SetPost fuel L' n0 W hb ov ob cap f deep kd ext b)) : Calls Tryz.prog 216 #[.agg #[], .pointer (some ⟨hb, 0, none⟩), .int .i64 1, .agg (kArr k), .agg (vArr v), .agg (vArr vR1)] w (SetPost fuel L' n0 w hb ov ob cap f deep kd ext b) := by
  have hm := sGetOwn xb
  have cO : ∀ W, StX n0 W hb ov ob tp cap fuel deep kd ext L → Keeps n0 w W → Calls Tryz.prog 210 #[.pointer (some ⟨xb, 0, none⟩), .pointer (some ⟨hb, 0, none⟩), .int .i64 1, .agg (kArr k)] W fun e w' => Rd (.tuple #[.agg (dArr (d)), .bool true, .nilIface]) n0 W hb ov ob tp cap fuel deep kd ext L e w' := fun W s hk => by
    have h := sown_any s (hQ.keeps hk) k
    unfold rdS at h
    rw [ho] at h
    exact h
  have cur := Bag.start s
  clear s hQ ho
  go_enter Tryz.func216, Tryz.ntmps216
  go_wp2_with (first | ((with_reducible show wpList _ _ _ (⟨_, .box 105 _, _, _, _, _⟩ :: _) _ _); refine wpList_box_blk rfl 105 _ rfl (#[]) rfl ?_; intro wz hB hL hs; replace cur := cur.push hL hB (Nat.le_refl _) rfl; clear hB hL hs) | ((with_reducible show wpList _ _ _ (⟨_, .box 40 _, _, _, _, _⟩ :: _) _ _); refine wpList_box_blk rfl 40 _ rfl (kArr k) rfl ?_; intro wk hB hL hs; replace cur := cur.push hL hB (Nat.le_refl _) rfl; clear hB hL hs) | ((with_reducible show wpList _ _ _ (⟨some 10, .box 36 _, _, _, _, _⟩ :: _) _ _); refine wpList_box_blk rfl 36 _ rfl (vArr v) rfl ?_; intro wv hB hL hs; replace cur := cur.push hL hB (Nat.le_refl _) rfl; clear hB hL hs) | ((with_reducible show wpList _ _ _ (⟨some 11, .box 36 _, _, _, _, _⟩ :: _) _ _); refine wpList_box_blk rfl 36 _ rfl (vArr vR1) rfl ?_; intro wr hB hL hs; replace cur := cur.push hL hB (Nat.le_refl _) rfl; clear hB hL hs))
  refine Ord.region (fun W => Has W ([(wz.heap.size, kArr k, 40)])) [9, 10, 13, 14] (by kernel_rfl) (cur.drew.has (by simp)) ?_
  intro hS
  replace cur := cur.drew
  refine Ord.tp 0 19 rfl rfl ?_
  refine Ord.tp 1 20 rfl rfl ?_
  refine Ord.tp 3 22 rfl rfl ?_
  refine Ord.tp 4 23 rfl rfl ?_
  refine Ord.tk 5 24 rfl rfl (yieldsIf_load_mid (by rfl) 40 _ rfl wz.heap.size 0 rfl ([.string k.str, .int .i64 k.sym]) _ (fun W hSW => range_all (hSW.blk 0 rfl)) Tryz.underlying40 rfl Tryz.size40) ?_
  refine Ord.two (i := 2) (j := 11) rfl rfl (by kernel_rfl) (by rfl) (by rfl) ?_ ?_
  · intro K HK
    go_simp
    go_at_call 108
    refine (does_any cur.s).mono ?_
    rintro e wX ⟨rfl, rfl⟩
    refine HK.out _ _ ?_
    clear HK
    refine Ord.kp ?_ ?_
    · exact cur.has (by simp)
    clear hS
    intro hS
    try simp only [List.setIfInBounds_toArray, List.set_cons_zero, List.set_cons_succ]
    refine Ord.two (i := 6) (j := 11) rfl rfl (by kernel_rfl) (by rfl) (by rfl) ?_ ?_
    · intro K HK
      go_simp
      go_at_call 210
      refine (cO _ cur.s cur.k).mono ?_
      rintro e wY ⟨rfl, s9, k9⟩
      replace cur := cur.go s9 k9
      refine HK.out _ _ ?_
      clear HK
      refine Ord.kp ?_ ?_
      · exact cur.has (by simp)
      clear hS
      intro hS
      try simp only [List.setIfInBounds_toArray, List.set_cons_zero, List.set_cons_succ]
      refine Ord.tp 7 18 rfl rfl ?_
      refine Ord.tp 8 26 rfl rfl ?_
      refine Ord.tf 9 27 rfl rfl ?_
      refine Ord.tf 10 28 rfl rfl ?_
      refine Ord.step (i := 11) rfl (by kernel_rfl) (by rfl) ?_
      intro K HK
      refine alloc_op 43 rfl (dArr Dc.d0) zero43 ?_
      intro wh bA hBA hbe hLA
      have hgeA : w.heap.size ≤ bA := by have := cur.k.size; omega
      replace cur := cur.push hLA hBA (Nat.le_of_eq hbe.symm) rfl
      clear hbe hLA hBA
      refine HK.out _ _ ?_
      clear HK
      refine Ord.kp ?_ ?_
      · exact cur.has (by simp)
      clear hS
      intro hS
      try simp only [List.setIfInBounds_toArray, List.set_cons_zero, List.set_cons_succ]
      refine Ord.step (i := 12) rfl (by kernel_rfl) (by rfl) ?_
      intro K HK
      refine store_blk_op 43 (.tmp 14) (.tmp 26) rfl bA (dArr (d)) (dArr Dc.d0) 43 rfl rfl (cur.blk 0 rfl) Tryz.size43 rfl (dCells_one _) ?_
      intro wi hBi hOi
      replace cur := cur.set 0 rfl hOi hBi hgeA
      clear hBi hOi
      refine HK.out _ _ ?_
      clear HK
      refine ⟨Ord.np (by kernel_rfl), ?_⟩
      try simp only [List.setIfInBounds_toArray, List.set_cons_zero, List.set_cons_succ]
      refine Ord.tf 13 15 rfl rfl ?_
      refine Ord.tf 14 16 rfl rfl ?_
      refine Ord.done (by kernel_rfl) ?_ _
      clear hS
      go_wp2_with (first | ((with_reducible show wpList _ _ _ (⟨_, .load 40 (.tmp 9), _, _, _, _⟩ :: _) _ _); refine wpList_load_blk rfl 40 _ rfl _ rfl (cur.blk 3 rfl) Tryz.row40 Tryz.size40 ?_) | ((with_reducible show wpList _ _ _ (⟨_, .load 36 (.tmp 10), _, _, _, _⟩ :: _) _ _); refine wpList_load_blk rfl 36 _ rfl _ rfl (cur.blk 2 rfl) Tryz.row36 Tryz.size36 ?_) | ((with_reducible show wpList _ _ _ (⟨_, .load 36 (.tmp 11), _, _, _, _⟩ :: _) _ _); refine wpList_load_blk rfl 36 _ rfl _ rfl (cur.blk 1 rfl) Tryz.row36 Tryz.size36 ?_) | ((with_reducible show wpList _ _ _ (⟨_, .load 43 (.tmp 14), _, _, _, _⟩ :: _) _ _); refine wpList_load_blk rfl 43 _ rfl _ rfl (cur.blk 0 rfl) Tryz.row43 Tryz.size43 ?_) | (go_at_call 229; refine (cS _ cur.s cur.k).mono ?_; rintro e wf ⟨tpf, rfl, s9, k9, hle⟩; replace cur := cur.go s9 k9))
      go_ret2
      exact ⟨tpf, rfl, cur.s, cur.k, hle⟩
    · intro K HK
      refine alloc_op 43 rfl (dArr Dc.d0) zero43 ?_
      intro wh bA hBA hbe hLA
      have hgeA : w.heap.size ≤ bA := by have := cur.k.size; omega
      replace cur := cur.push hLA hBA (Nat.le_of_eq hbe.symm) rfl
      clear hbe hLA hBA
      refine HK.out _ _ ?_
      clear HK
      refine Ord.kp ?_ ?_
      · exact cur.has (by simp)
      clear hS
      intro hS
      try simp only [List.setIfInBounds_toArray, List.set_cons_zero, List.set_cons_succ]
      refine Ord.step (i := 6) rfl (by kernel_rfl) (by rfl) ?_
      intro K HK
      go_simp
      go_at_call 210
      refine (cO _ cur.s cur.k).mono ?_
      rintro e wY ⟨rfl, s9, k9⟩
      replace cur := cur.go s9 k9
      refine HK.out _ _ ?_
      clear HK
      refine Ord.kp ?_ ?_
      · exact cur.has (by simp)
      clear hS
      intro hS
      try simp only [List.setIfInBounds_toArray, List.set_cons_zero, List.set_cons_succ]
      refine Ord.tp 7 18 rfl rfl ?_
      refine Ord.tp 8 26 rfl rfl ?_
      refine Ord.tf 9 27 rfl rfl ?_
      refine Ord.tf 10 28 rfl rfl ?_
      refine Ord.step (i := 12) rfl (by kernel_rfl) (by rfl) ?_
      intro K HK
      refine store_blk_op 43 (.tmp 14) (.tmp 26) rfl bA (dArr (d)) (dArr Dc.d0) 43 rfl rfl (cur.blk 0 rfl) Tryz.size43 rfl (dCells_one _) ?_
      intro wi hBi hOi
      replace cur := cur.set 0 rfl hOi hBi hgeA
      clear hBi hOi
      refine HK.out _ _ ?_
      clear HK
      refine ⟨Ord.np (by kernel_rfl), ?_⟩
      try simp only [List.setIfInBounds_toArray, List.set_cons_zero, List.set_cons_succ]
      refine Ord.tf 13 15 rfl rfl ?_
      refine Ord.tf 14 16 rfl rfl ?_
      refine Ord.done (by kernel_rfl) ?_ _
      clear hS
      go_wp2_with (first | ((with_reducible show wpList _ _ _ (⟨_, .load 40 (.tmp 9), _, _, _, _⟩ :: _) _ _); refine wpList_load_blk rfl 40 _ rfl _ rfl (cur.blk 3 rfl) Tryz.row40 Tryz.size40 ?_) | ((with_reducible show wpList _ _ _ (⟨_, .load 36 (.tmp 10), _, _, _, _⟩ :: _) _ _); refine wpList_load_blk rfl 36 _ rfl _ rfl (cur.blk 2 rfl) Tryz.row36 Tryz.size36 ?_) | ((with_reducible show wpList _ _ _ (⟨_, .load 36 (.tmp 11), _, _, _, _⟩ :: _) _ _); refine wpList_load_blk rfl 36 _ rfl _ rfl (cur.blk 1 rfl) Tryz.row36 Tryz.size36 ?_) | ((with_reducible show wpList _ _ _ (⟨_, .load 43 (.tmp 14), _, _, _, _⟩ :: _) _ _); refine wpList_load_blk rfl 43 _ rfl _ rfl (cur.blk 0 rfl) Tryz.row43 Tryz.size43 ?_) | (go_at_call 229; refine (cS _ cur.s cur.k).mono ?_; rintro e wf ⟨tpf, rfl, s9, k9, hle⟩; replace cur := cur.go s9 k9))
      go_ret2
      exact ⟨tpf, rfl, cur.s, cur.k, hle⟩
  · intro K HK
    refine alloc_op 43 rfl (dArr Dc.d0) zero43 ?_
    intro wh bA hBA hbe hLA
    have hgeA : w.heap.size ≤ bA := by have := cur.k.size; omega
    replace cur := cur.push hLA hBA (Nat.le_of_eq hbe.symm) rfl
    clear hbe hLA hBA
    refine HK.out _ _ ?_
    clear HK
    refine Ord.kp ?_ ?_
    · exact cur.has (by simp)
    clear hS
    intro hS
    try simp only [List.setIfInBounds_toArray, List.set_cons_zero, List.set_cons_succ]
    refine Ord.step (i := 2) rfl (by kernel_rfl) (by rfl) ?_
    intro K HK
    go_simp
    go_at_call 108
    refine (does_any cur.s).mono ?_
    rintro e wX ⟨rfl, rfl⟩
    refine HK.out _ _ ?_
    clear HK
    refine Ord.kp ?_ ?_
    · exact cur.has (by simp)
    clear hS
    intro hS
    try simp only [List.setIfInBounds_toArray, List.set_cons_zero, List.set_cons_succ]
    refine Ord.step (i := 6) rfl (by kernel_rfl) (by rfl) ?_
    intro K HK
    go_simp
    go_at_call 210
    refine (cO _ cur.s cur.k).mono ?_
    rintro e wY ⟨rfl, s9, k9⟩
    replace cur := cur.go s9 k9
    refine HK.out _ _ ?_
    clear HK
    refine Ord.kp ?_ ?_
    · exact cur.has (by simp)
    clear hS
    intro hS
    try simp only [List.setIfInBounds_toArray, List.set_cons_zero, List.set_cons_succ]
    refine Ord.tp 7 18 rfl rfl ?_
    refine Ord.tp 8 26 rfl rfl ?_
    refine Ord.tf 9 27 rfl rfl ?_
    refine Ord.tf 10 28 rfl rfl ?_
    refine Ord.step (i := 12) rfl (by kernel_rfl) (by rfl) ?_
    intro K HK
    refine store_blk_op 43 (.tmp 14) (.tmp 26) rfl bA (dArr (d)) (dArr Dc.d0) 43 rfl rfl (cur.blk 0 rfl) Tryz.size43 rfl (dCells_one _) ?_
    intro wi hBi hOi
    replace cur := cur.set 0 rfl hOi hBi hgeA
    clear hBi hOi
    refine HK.out _ _ ?_
    clear HK
    refine ⟨Ord.np (by kernel_rfl), ?_⟩
    try simp only [List.setIfInBounds_toArray, List.set_cons_zero, List.set_cons_succ]
    refine Ord.tf 13 15 rfl rfl ?_
    refine Ord.tf 14 16 rfl rfl ?_
    refine Ord.done (by kernel_rfl) ?_ _
    clear hS
    go_wp2_with (first | ((with_reducible show wpList _ _ _ (⟨_, .load 40 (.tmp 9), _, _, _, _⟩ :: _) _ _); refine wpList_load_blk rfl 40 _ rfl _ rfl (cur.blk 3 rfl) Tryz.row40 Tryz.size40 ?_) | ((with_reducible show wpList _ _ _ (⟨_, .load 36 (.tmp 10), _, _, _, _⟩ :: _) _ _); refine wpList_load_blk rfl 36 _ rfl _ rfl (cur.blk 2 rfl) Tryz.row36 Tryz.size36 ?_) | ((with_reducible show wpList _ _ _ (⟨_, .load 36 (.tmp 11), _, _, _, _⟩ :: _) _ _); refine wpList_load_blk rfl 36 _ rfl _ rfl (cur.blk 1 rfl) Tryz.row36 Tryz.size36 ?_) | ((with_reducible show wpList _ _ _ (⟨_, .load 43 (.tmp 14), _, _, _, _⟩ :: _) _ _); refine wpList_load_blk rfl 43 _ rfl _ rfl (cur.blk 0 rfl) Tryz.row43 Tryz.size43 ?_) | (go_at_call 229; refine (cS _ cur.s cur.k).mono ?_; rintro e wf ⟨tpf, rfl, s9, k9, hle⟩; replace cur := cur.go s9 k9))
    go_ret2
    exact ⟨tpf, rfl, cur.s, cur.k, hle⟩

theorem set_none {n0 : Nat} {w : World} {hb : Nat} {ov : Value} {ob : Nat} {tp : Option Addr} {cap fuel deep : Int} {kd : Kd} {ext : Bool} {L : List (Ky × Ds)} (s : StX n0 w hb ov ob tp cap fuel deep kd ext L) {xb g uc : Nat} {sb : ByteArray} {A : Option Addr} {U : List Int} (hQ : SAt w xb sb g uc A U) (hmv : kd.mv = .iface 103 (.pointer (some ⟨xb, 0, none⟩))) (hf : Can fuel deep kd) (k : Ky) (v : V) (hpr : kd.proto = vN) (ho : ownS L U k = none) (L' : List (Ky × Ds)) (f : Int) (b : Bool) (cS : ∀ W, StX n0 W hb ov ob tp cap fuel deep kd ext L → Keeps n0 w W → Calls Tryz.prog 229 #[.pointer (some ⟨hb, 0, none⟩), .agg (dArr (newD Dc.vU)), .agg (kArr k), .agg (vArr v), .agg (vArr vR1)] W (SetPost fuel L' n0 W hb ov ob cap f deep kd ext b)) : Calls Tryz.prog 216 #[.agg #[], .pointer (some ⟨hb, 0, none⟩), .int .i64 1, .agg (kArr k), .agg (vArr v), .agg (vArr vR1)] w (SetPost fuel L' n0 w hb ov ob cap f deep kd ext b) := by
  have hm := sGetOwn xb
  have cO : ∀ W, StX n0 W hb ov ob tp cap fuel deep kd ext L → Keeps n0 w W → Calls Tryz.prog 210 #[.pointer (some ⟨xb, 0, none⟩), .pointer (some ⟨hb, 0, none⟩), .int .i64 1, .agg (kArr k)] W fun e w' => Rd (.tuple #[.agg (dArr (Dc.d0)), .bool false, .nilIface]) n0 W hb ov ob tp cap fuel deep kd ext L e w' := fun W s hk => by
    have h := sown_any s (hQ.keeps hk) k
    unfold rdS at h
    rw [ho] at h
    exact h
  have cur := Bag.start s
  clear s hQ ho
  go_enter Tryz.func216, Tryz.ntmps216
  go_wp2_with (first | ((with_reducible show wpList _ _ _ (⟨_, .box 105 _, _, _, _, _⟩ :: _) _ _); refine wpList_box_blk rfl 105 _ rfl (#[]) rfl ?_; intro wz hB hL hs; replace cur := cur.push hL hB (Nat.le_refl _) rfl; clear hB hL hs) | ((with_reducible show wpList _ _ _ (⟨_, .box 40 _, _, _, _, _⟩ :: _) _ _); refine wpList_box_blk rfl 40 _ rfl (kArr k) rfl ?_; intro wk hB hL hs; replace cur := cur.push hL hB (Nat.le_refl _) rfl; clear hB hL hs) | ((with_reducible show wpList _ _ _ (⟨some 10, .box 36 _, _, _, _, _⟩ :: _) _ _); refine wpList_box_blk rfl 36 _ rfl (vArr v) rfl ?_; intro wv hB hL hs; replace cur := cur.push hL hB (Nat.le_refl _) rfl; clear hB hL hs) | ((with_reducible show wpList _ _ _ (⟨some 11, .box 36 _, _, _, _, _⟩ :: _) _ _); refine wpList_box_blk rfl 36 _ rfl (vArr vR1) rfl ?_; intro wr hB hL hs; replace cur := cur.push hL hB (Nat.le_refl _) rfl; clear hB hL hs))
  refine Ord.region (fun W => Has W ([(wz.heap.size, kArr k, 40)])) [9, 10, 13, 14] (by kernel_rfl) (cur.drew.has (by simp)) ?_
  intro hS
  replace cur := cur.drew
  refine Ord.tp 0 19 rfl rfl ?_
  refine Ord.tp 1 20 rfl rfl ?_
  refine Ord.tp 3 22 rfl rfl ?_
  refine Ord.tp 4 23 rfl rfl ?_
  refine Ord.tk 5 24 rfl rfl (yieldsIf_load_mid (by rfl) 40 _ rfl wz.heap.size 0 rfl ([.string k.str, .int .i64 k.sym]) _ (fun W hSW => range_all (hSW.blk 0 rfl)) Tryz.underlying40 rfl Tryz.size40) ?_
  refine Ord.two (i := 2) (j := 11) rfl rfl (by kernel_rfl) (by rfl) (by rfl) ?_ ?_
  · intro K HK
    go_simp
    go_at_call 108
    refine (does_any cur.s).mono ?_
    rintro e wX ⟨rfl, rfl⟩
    refine HK.out _ _ ?_
    clear HK
    refine Ord.kp ?_ ?_
    · exact cur.has (by simp)
    clear hS
    intro hS
    try simp only [List.setIfInBounds_toArray, List.set_cons_zero, List.set_cons_succ]
    refine Ord.two (i := 6) (j := 11) rfl rfl (by kernel_rfl) (by rfl) (by rfl) ?_ ?_
    · intro K HK
      go_simp
      go_at_call 210
      refine (cO _ cur.s cur.k).mono ?_
      rintro e wY ⟨rfl, s9, k9⟩
      replace cur := cur.go s9 k9
      refine HK.out _ _ ?_
      clear HK
      refine Ord.kp ?_ ?_
      · exact cur.has (by simp)
      clear hS
      intro hS
      try simp only [List.setIfInBounds_toArray, List.set_cons_zero, List.set_cons_succ]
      refine Ord.tp 7 18 rfl rfl ?_
      refine Ord.tp 8 26 rfl rfl ?_
      refine Ord.tf 9 27 rfl rfl ?_
      refine Ord.tf 10 28 rfl rfl ?_
      refine Ord.step (i := 11) rfl (by kernel_rfl) (by rfl) ?_
      intro K HK
      refine alloc_op 43 rfl (dArr Dc.d0) zero43 ?_
      intro wh bA hBA hbe hLA
      have hgeA : w.heap.size ≤ bA := by have := cur.k.size; omega
      replace cur := cur.push hLA hBA (Nat.le_of_eq hbe.symm) rfl
      clear hbe hLA hBA
      refine HK.out _ _ ?_
      clear HK
      refine Ord.kp ?_ ?_
      · exact cur.has (by simp)
      clear hS
      intro hS
      try simp only [List.setIfInBounds_toArray, List.set_cons_zero, List.set_cons_succ]
      refine Ord.step (i := 12) rfl (by kernel_rfl) (by rfl) ?_
      intro K HK
      refine store_blk_op 43 (.tmp 14) (.tmp 26) rfl bA (dArr (Dc.d0)) (dArr Dc.d0) 43 rfl rfl (cur.blk 0 rfl) Tryz.size43 rfl (dCells_one _) ?_
      intro wi hBi hOi
      replace cur := cur.set 0 rfl hOi hBi hgeA
      clear hBi hOi
      refine HK.out _ _ ?_
      clear HK
      refine ⟨Ord.np (by kernel_rfl), ?_⟩
      try simp only [List.setIfInBounds_toArray, List.set_cons_zero, List.set_cons_succ]
      refine Ord.tf 13 15 rfl rfl ?_
      refine Ord.tf 14 16 rfl rfl ?_
      refine Ord.done (by kernel_rfl) ?_ _
      clear hS
      go_wp2_with (first | (go_at_call 223; refine (proto_any cur.s).mono ?_; rintro e wj ⟨rfl, s9, k9⟩; replace cur := cur.go s9 k9; rw [hpr]) | ((with_reducible show wpList _ _ _ (⟨some 17, .alloc 36, _, _, _, _⟩ :: _) _ _); refine wpList_alloc_blk rfl 36 rfl (vArr Dc.v0) zero36 ?_; intro wp hB hL hs; have hlp := cur.k.size; replace cur := cur.push hL hB (Nat.le_refl _) rfl; clear hB hL hs) | ((with_reducible show wpList _ _ _ (⟨_, .store 36 (.tmp 17) _, _, _, _, _⟩ :: _) _ _); refine wpList_store_blk rfl 36 _ _ rfl _ (vArr vN) _ 36 rfl rfl (cur.blk 0 rfl) Tryz.size36 rfl (vArr_one _) ?_; intro wp2 hB hO; replace cur := cur.set 0 rfl hO hB hlp; clear hB hO) | ((with_reducible show wpList _ _ _ (⟨_, .load 3 (.tmp 37), _, _, _, _⟩ :: _) _ _); refine wpList_load1 (by rfl) 3 _ rfl _ 0 rfl (.int .i64 2) (Tryz.isAgg3 _) ((cur.blk 0 rfl).cell 0) ?_) | (go_at_call 224; refine (undef_any _).mono ?_; rintro e wu ⟨rfl, hb'⟩; replace cur := cur.next hb'; clear hb') | ((with_reducible show wpList _ _ _ (⟨_, .store 43 (.tmp 14) _, _, _, _, _⟩ :: _) _ _); refine wpList_store_blk rfl 43 _ _ rfl _ (dArr (newD Dc.vU)) _ 43 rfl rfl (cur.blk 1 rfl) Tryz.size43 rfl (dCells_one _) ?_; intro wn hB hO; replace cur := cur.set 1 rfl hO hB hgeA; clear hB hO) | ((with_reducible show wpList _ _ _ (⟨_, .load 40 (.tmp 9), _, _, _, _⟩ :: _) _ _); refine wpList_load_blk rfl 40 _ rfl _ rfl (cur.blk 4 rfl) Tryz.row40 Tryz.size40 ?_) | ((with_reducible show wpList _ _ _ (⟨_, .load 36 (.tmp 10), _, _, _, _⟩ :: _) _ _); refine wpList_load_blk rfl 36 _ rfl _ rfl (cur.blk 3 rfl) Tryz.row36 Tryz.size36 ?_) | ((with_reducible show wpList _ _ _ (⟨_, .load 36 (.tmp 11), _, _, _, _⟩ :: _) _ _); refine wpList_load_blk rfl 36 _ rfl _ rfl (cur.blk 2 rfl) Tryz.row36 Tryz.size36 ?_) | ((with_reducible show wpList _ _ _ (⟨_, .load 43 (.tmp 14), _, _, _, _⟩ :: _) _ _); refine wpList_load_blk rfl 43 _ rfl _ rfl (cur.blk 1 rfl) Tryz.row43 Tryz.size43 ?_) | (go_at_call 229; refine (cS _ cur.s cur.k).mono ?_; rintro e wf ⟨tpf, rfl, s9, k9, hle⟩; replace cur := cur.go s9 k9))
      go_ret2
      exact ⟨tpf, rfl, cur.s, cur.k, hle⟩
    · intro K HK
      refine alloc_op 43 rfl (dArr Dc.d0) zero43 ?_
      intro wh bA hBA hbe hLA
      have hgeA : w.heap.size ≤ bA := by have := cur.k.size; omega
      replace cur := cur.push hLA hBA (Nat.le_of_eq hbe.symm) rfl
      clear hbe hLA hBA
      refine HK.out _ _ ?_
      clear HK
      refine Ord.kp ?_ ?_
      · exact cur.has (by simp)
      clear hS
      intro hS
      try simp only [List.setIfInBounds_toArray, List.set_cons_zero, List.set_cons_succ]
      refine Ord.step (i := 6) rfl (by kernel_rfl) (by rfl) ?_
      intro K HK
      go_simp
      go_at_call 210
      refine (cO _ cur.s cur.k).mono ?_
      rintro e wY ⟨rfl, s9, k9⟩
      replace cur := cur.go s9 k9
      refine HK.out _ _ ?_
      clear HK
      refine Ord.kp ?_ ?_
      · exact cur.has (by simp)
      clear hS
      intro hS
      try simp only [List.setIfInBounds_toArray, List.set_cons_zero, List.set_cons_succ]
      refine Ord.tp 7 18 rfl rfl ?_
      refine Ord.tp 8 26 rfl rfl ?_
      refine Ord.tf 9 27 rfl rfl ?_
      refine Ord.tf 10 28 rfl rfl ?_
      refine Ord.step (i := 12) rfl (by kernel_rfl) (by rfl) ?_
      intro K HK
      refine store_blk_op 43 (.tmp 14) (.tmp 26) rfl bA (dArr (Dc.d0)) (dArr Dc.d0) 43 rfl rfl (cur.blk 0 rfl) Tryz.size43 rfl (dCells_one _) ?_
      intro wi hBi hOi
      replace cur := cur.set 0 rfl hOi hBi hgeA
      clear hBi hOi
      refine HK.out _ _ ?_
      clear HK
      refine ⟨Ord.np (by kernel_rfl), ?_⟩
      try simp only [List.setIfInBounds_toArray, List.set_cons_zero, List.set_cons_succ]
      refine Ord.tf 13 15 rfl rfl ?_
      refine Ord.tf 14 16 rfl rfl ?_
      refine Ord.done (by kernel_rfl) ?_ _
      clear hS
      go_wp2_with (first | (go_at_call 223; refine (proto_any cur.s).mono ?_; rintro e wj ⟨rfl, s9, k9⟩; replace cur := cur.go s9 k9; rw [hpr]) | ((with_reducible show wpList _ _ _ (⟨some 17, .alloc 36, _, _, _, _⟩ :: _) _ _); refine wpList_alloc_blk rfl 36 rfl (vArr Dc.v0) zero36 ?_; intro wp hB hL hs; have hlp := cur.k.size; replace cur := cur.push hL hB (Nat.le_refl _) rfl; clear hB hL hs) | ((with_reducible show wpList _ _ _ (⟨_, .store 36 (.tmp 17) _, _, _, _, _⟩ :: _) _ _); refine wpList_store_blk rfl 36 _ _ rfl _ (vArr vN) _ 36 rfl rfl (cur.blk 0 rfl) Tryz.size36 rfl (vArr_one _) ?_; intro wp2 hB hO; replace cur := cur.set 0 rfl hO hB hlp; clear hB hO) | ((with_reducible show wpList _ _ _ (⟨_, .load 3 (.tmp 37), _, _, _, _⟩ :: _) _ _); refine wpList_load1 (by rfl) 3 _ rfl _ 0 rfl (.int .i64 2) (Tryz.isAgg3 _) ((cur.blk 0 rfl).cell 0) ?_) | (go_at_call 224; refine (undef_any _).mono ?_; rintro e wu ⟨rfl, hb'⟩; replace cur := cur.next hb'; clear hb') | ((with_reducible show wpList _ _ _ (⟨_, .store 43 (.tmp 14) _, _, _, _, _⟩ :: _) _ _); refine wpList_store_blk rfl 43 _ _ rfl _ (dArr (newD Dc.vU)) _ 43 rfl rfl (cur.blk 1 rfl) Tryz.size43 rfl (dCells_one _) ?_; intro wn hB hO; replace cur := cur.set 1 rfl hO hB hgeA; clear hB hO) | ((with_reducible show wpList _ _ _ (⟨_, .load 40 (.tmp 9), _, _, _, _⟩ :: _) _ _); refine wpList_load_blk rfl 40 _ rfl _ rfl (cur.blk 4 rfl) Tryz.row40 Tryz.size40 ?_) | ((with_reducible show wpList _ _ _ (⟨_, .load 36 (.tmp 10), _, _, _, _⟩ :: _) _ _); refine wpList_load_blk rfl 36 _ rfl _ rfl (cur.blk 3 rfl) Tryz.row36 Tryz.size36 ?_) | ((with_reducible show wpList _ _ _ (⟨_, .load 36 (.tmp 11), _, _, _, _⟩ :: _) _ _); refine wpList_load_blk rfl 36 _ rfl _ rfl (cur.blk 2 rfl) Tryz.row36 Tryz.size36 ?_) | ((with_reducible show wpList _ _ _ (⟨_, .load 43 (.tmp 14), _, _, _, _⟩ :: _) _ _); refine wpList_load_blk rfl 43 _ rfl _ rfl (cur.blk 1 rfl) Tryz.row43 Tryz.size43 ?_) | (go_at_call 229; refine (cS _ cur.s cur.k).mono ?_; rintro e wf ⟨tpf, rfl, s9, k9, hle⟩; replace cur := cur.go s9 k9))
      go_ret2
      exact ⟨tpf, rfl, cur.s, cur.k, hle⟩
  · intro K HK
    refine alloc_op 43 rfl (dArr Dc.d0) zero43 ?_
    intro wh bA hBA hbe hLA
    have hgeA : w.heap.size ≤ bA := by have := cur.k.size; omega
    replace cur := cur.push hLA hBA (Nat.le_of_eq hbe.symm) rfl
    clear hbe hLA hBA
    refine HK.out _ _ ?_
    clear HK
    refine Ord.kp ?_ ?_
    · exact cur.has (by simp)
    clear hS
    intro hS
    try simp only [List.setIfInBounds_toArray, List.set_cons_zero, List.set_cons_succ]
    refine Ord.step (i := 2) rfl (by kernel_rfl) (by rfl) ?_
    intro K HK
    go_simp
    go_at_call 108
    refine (does_any cur.s).mono ?_
    rintro e wX ⟨rfl, rfl⟩
    refine HK.out _ _ ?_
    clear HK
    refine Ord.kp ?_ ?_
    · exact cur.has (by simp)
    clear hS
    intro hS
    try simp only [List.setIfInBounds_toArray, List.set_cons_zero, List.set_cons_succ]
    refine Ord.step (i := 6) rfl (by kernel_rfl) (by rfl) ?_
    intro K HK
    go_simp
    go_at_call 210
    refine (cO _ cur.s cur.k).mono ?_
    rintro e wY ⟨rfl, s9, k9⟩
    replace cur := cur.go s9 k9
    refine HK.out _ _ ?_
    clear HK
    refine Ord.kp ?_ ?_
    · exact cur.has (by simp)
    clear hS
    intro hS
    try simp only [List.setIfInBounds_toArray, List.set_cons_zero, List.set_cons_succ]
    refine Ord.tp 7 18 rfl rfl ?_
    refine Ord.tp 8 26 rfl rfl ?_
    refine Ord.tf 9 27 rfl rfl ?_
    refine Ord.tf 10 28 rfl rfl ?_
    refine Ord.step (i := 12) rfl (by kernel_rfl) (by rfl) ?_
    intro K HK
    refine store_blk_op 43 (.tmp 14) (.tmp 26) rfl bA (dArr (Dc.d0)) (dArr Dc.d0) 43 rfl rfl (cur.blk 0 rfl) Tryz.size43 rfl (dCells_one _) ?_
    intro wi hBi hOi
    replace cur := cur.set 0 rfl hOi hBi hgeA
    clear hBi hOi
    refine HK.out _ _ ?_
    clear HK
    refine ⟨Ord.np (by kernel_rfl), ?_⟩
    try simp only [List.setIfInBounds_toArray, List.set_cons_zero, List.set_cons_succ]
    refine Ord.tf 13 15 rfl rfl ?_
    refine Ord.tf 14 16 rfl rfl ?_
    refine Ord.done (by kernel_rfl) ?_ _
    clear hS
    go_wp2_with (first | (go_at_call 223; refine (proto_any cur.s).mono ?_; rintro e wj ⟨rfl, s9, k9⟩; replace cur := cur.go s9 k9; rw [hpr]) | ((with_reducible show wpList _ _ _ (⟨some 17, .alloc 36, _, _, _, _⟩ :: _) _ _); refine wpList_alloc_blk rfl 36 rfl (vArr Dc.v0) zero36 ?_; intro wp hB hL hs; have hlp := cur.k.size; replace cur := cur.push hL hB (Nat.le_refl _) rfl; clear hB hL hs) | ((with_reducible show wpList _ _ _ (⟨_, .store 36 (.tmp 17) _, _, _, _, _⟩ :: _) _ _); refine wpList_store_blk rfl 36 _ _ rfl _ (vArr vN) _ 36 rfl rfl (cur.blk 0 rfl) Tryz.size36 rfl (vArr_one _) ?_; intro wp2 hB hO; replace cur := cur.set 0 rfl hO hB hlp; clear hB hO) | ((with_reducible show wpList _ _ _ (⟨_, .load 3 (.tmp 37), _, _, _, _⟩ :: _) _ _); refine wpList_load1 (by rfl) 3 _ rfl _ 0 rfl (.int .i64 2) (Tryz.isAgg3 _) ((cur.blk 0 rfl).cell 0) ?_) | (go_at_call 224; refine (undef_any _).mono ?_; rintro e wu ⟨rfl, hb'⟩; replace cur := cur.next hb'; clear hb') | ((with_reducible show wpList _ _ _ (⟨_, .store 43 (.tmp 14) _, _, _, _, _⟩ :: _) _ _); refine wpList_store_blk rfl 43 _ _ rfl _ (dArr (newD Dc.vU)) _ 43 rfl rfl (cur.blk 1 rfl) Tryz.size43 rfl (dCells_one _) ?_; intro wn hB hO; replace cur := cur.set 1 rfl hO hB hgeA; clear hB hO) | ((with_reducible show wpList _ _ _ (⟨_, .load 40 (.tmp 9), _, _, _, _⟩ :: _) _ _); refine wpList_load_blk rfl 40 _ rfl _ rfl (cur.blk 4 rfl) Tryz.row40 Tryz.size40 ?_) | ((with_reducible show wpList _ _ _ (⟨_, .load 36 (.tmp 10), _, _, _, _⟩ :: _) _ _); refine wpList_load_blk rfl 36 _ rfl _ rfl (cur.blk 3 rfl) Tryz.row36 Tryz.size36 ?_) | ((with_reducible show wpList _ _ _ (⟨_, .load 36 (.tmp 11), _, _, _, _⟩ :: _) _ _); refine wpList_load_blk rfl 36 _ rfl _ rfl (cur.blk 2 rfl) Tryz.row36 Tryz.size36 ?_) | ((with_reducible show wpList _ _ _ (⟨_, .load 43 (.tmp 14), _, _, _, _⟩ :: _) _ _); refine wpList_load_blk rfl 43 _ rfl _ rfl (cur.blk 1 rfl) Tryz.row43 Tryz.size43 ?_) | (go_at_call 229; refine (cS _ cur.s cur.k).mono ?_; rintro e wf ⟨tpf, rfl, s9, k9, hle⟩; replace cur := cur.go s9 k9))
    go_ret2
    exact ⟨tpf, rfl, cur.s, cur.k, hle⟩


end Go.Proofs.YtoalboilghgalaaGreatDoor

/- Set of a String object: as it is done, its closure, EnterSet. -/
namespace Go.Proofs.YtoalboilghgalaaGreatDoor
open Go.RowKit
open Go.Proofs.Dc (V Ds Ky)
attribute [local go_sem] run_store_float

/-- no getter and no setter is an object -/
def NoRef (L : List (Ky × Ds)) : Prop := ∀ p ∈ L, ¬ p.2.get.kind = 7 ∧ ¬ p.2.set.kind = 7
/-- a call that spends, and may leave other properties -/
def GivesM (Post : Int → List (Ky × Ds) → Prop) (n0 : Nat) (w : World) (hb : Nat) (ov : Value) (ob : Nat) (cap deep : Int) (kd : Kd) (ext : Bool) (e : Ending) (w' : World) : Prop :=
  ∃ b f L' tp, e = .returned (.tuple #[.bool b, .nilIface]) ∧ StX n0 w' hb ov ob tp cap f deep kd ext L' ∧ Keeps n0 w w' ∧ Post f L'
theorem GivesM.up {Post : Int → List (Ky × Ds) → Prop} {n0 : Nat} {w : World} {hb : Nat} {ov : Value} {ob : Nat} {cap deep : Int} {kd : Kd} {ext : Bool} {e : Ending} {w' : World} (hb1 : kd.b < 1000000) (h : GivesM Post n0 w hb ov ob cap deep kd ext e w') : GivesM Post n0 w hb ov ob cap deep kd.up ext e w' := by
  obtain ⟨b, f, L', tp, h1, h2, h3⟩ := h
  exact ⟨b, f, L', tp, h1, h2.up hb1, h3⟩
/-- what Set leaves -/
def SetL (fuel : Int) (ext : Bool) (L : List (Ky × Ds)) (U : List Int) (k : Ky) (v : V) (f : Int) (L' : List (Ky × Ds)) : Prop :=
  fuel - 2 ≤ f ∧ (L' = L ∨ L' = defLS ext L U k (newD v) ∨ L' = defLS ext L U k (oldD v))
theorem vU_acc : (Dc.kindB uvalid (newD Dc.vU) && Dc.kindN uvalid (newD Dc.vU) == 2) = false := by
  have h : Dc.good uvalid Dc.vU = true := by simp [Dc.good, Dc.vin, Dc.plain, Dc.vU, Dc.isE]
  have hk := newD_ok h
  rw [hk, Bool.true_and]
  simp [Dc.kindN, Dc.formed, newD, h, Dc.callab, Dc.absent, Dc.d0, Dc.v0, Dc.isE, Dc.tri, Dc.there]
theorem own_ok {W : World} {xb g cap : Nat} {s : ByteArray} {A : Option Addr} {U : List Int} (hS : SAt W xb s g cap A U) {L : List (Ky × Ds)} (hn : LNums L) (hr : NoRef L) {k : Ky} {d : Ds} (h : ownS L U k = some d) : Nums d ∧ ¬ d.set.kind = 7 := by
  unfold ownS at h
  cases hg : getL L k with
  | some d' =>
    rw [hg] at h
    cases h
    obtain ⟨p, hp, rfl⟩ := get_mem hg
    exact ⟨hn p hp, (hr p hp).2⟩
  | none =>
    rw [hg] at h
    simp only at h
    refine ⟨(unitD_ok hS h).2, ?_⟩
    unfold unitD at h
    split at h
    · rename_i i _
      cases hx : U[i]? with
      | none => rw [hx] at h; cases h
      | some x => rw [hx] at h; cases h; exact (by decide : ¬ (0 : Int) = 7)
    · cases h

theorem set_any {n0 : Nat} {w : World} {hb : Nat} {ov : Value} {ob : Nat} {tp : Option Addr} {cap fuel deep : Int} {kd : Kd} {ext : Bool} {L : List (Ky × Ds)} (s : StX n0 w hb ov ob tp cap fuel deep kd ext L) {xb g uc : Nat} {sb : ByteArray} {A : Option Addr} {U : List Int} (hQ : SAt w xb sb g uc A U) (hmv : kd.mv = .iface 103 (.pointer (some ⟨xb, 0, none⟩))) (hf : Can fuel deep kd) (k : Ky) (v : V) (hpr : kd.proto = vN) (hf2 : 1 < fuel) (hg : kgood k = true) (hv : Dc.good uvalid v = true) (hvn : v.num < 2 ^ 64) (hn : LNums L) (hl : LOk L) (hr : NoRef L) : Calls Tryz.prog 216 #[.agg #[], .pointer (some ⟨hb, 0, none⟩), .int .i64 1, .agg (kArr k), .agg (vArr v), .agg (vArr vR1)] w (GivesM (SetL fuel ext L U k v) n0 w hb ov ob cap deep kd ext) := by
  have fin : ∀ L' f b, (L' = L ∨ L' = defLS ext L U k (newD v) ∨ L' = defLS ext L U k (oldD v)) → ∀ e w', SetPost fuel L' n0 w hb ov ob cap f deep kd ext b e w' → GivesM (SetL fuel ext L U k v) n0 w hb ov ob cap deep kd ext e w' := fun L' f b h e w' ⟨tp', h1, h2, h3, h4⟩ => ⟨b, f, L', tp', h1, h2, h3, h4, h⟩
  cases ho : ownS L U k with
  | none =>
    exact (set_none s hQ hmv hf k v hpr ho (defLS ext L U k (newD v)) (fuel - 1 - 1) (defBS ext L U k (newD v)) fun W sW kW => setby_new sW (hQ.keeps kW) hmv hf k v (newD Dc.vU) (newD_nums (by decide)) hf2 hg hv hvn hn hl vU_acc (by decide) ho).mono (fin _ _ _ (.inr (.inl rfl)))
  | some d =>
    obtain ⟨hnd, hsk⟩ := own_ok hQ hn hr ho
    cases hacc : (Dc.kindB uvalid d && Dc.kindN uvalid d == 2) with
    | true => exact (set_some s hQ hmv hf k v d ho _ _ _ fun W sW kW => setby_acc sW (hQ.keeps kW) hmv hf k v d hnd hacc hsk).mono (fin _ _ _ (.inl rfl))
    | false =>
      by_cases hw : d.w = 1
      · exact (set_some s hQ hmv hf k v d ho _ _ _ fun W sW kW => setby_ro sW (hQ.keeps kW) hmv hf k v d hnd hacc hw).mono (fin _ _ _ (.inl rfl))
      · exact (set_some s hQ hmv hf k v d ho _ _ _ fun W sW kW => setby_old sW (hQ.keeps kW) hmv hf k v d hnd hf2 hg hv hvn hn hl hacc hw ho).mono (fin _ _ _ (.inr (.inr rfl)))
theorem scset {n0 : Nat} {w : World} {hb : Nat} {ov : Value} {ob : Nat} {tp : Option Addr} {cap fuel deep : Int} {kd : Kd} {ext : Bool} {L : List (Ky × Ds)} {xb g uc : Nat} {sb : ByteArray} {A : Option Addr} {U : List Int} (hQ : SAt w xb sb g uc A U) (hmv : kd.mv = .iface 103 (.pointer (some ⟨xb, 0, none⟩))) {bh bi bk bv br : Nat} (hf : Can fuel deep kd) (k : Ky) (v : V) (hpr : kd.proto = vN) (hf2 : 1 < fuel) (hg : kgood k = true) (hv : Dc.good uvalid v = true) (hvn : v.num < 2 ^ 64) (hn : LNums L) (hl : LOk L) (hr : NoRef L) (cur : Bag n0 w w hb ov ob tp cap fuel deep kd ext L [(br, vArr vR1, 36), (bv, vArr v, 36), (bk, kArr k, 40), (bi, #[.int .i64 1], 3), (bh, #[.pointer (some ⟨hb, 0, none⟩)], 25)]) : Calls Tryz.prog 109 #[.pointer (some ⟨bh, 0, none⟩), .pointer (some ⟨bi, 0, none⟩), .pointer (some ⟨bk, 0, none⟩), .pointer (some ⟨bv, 0, none⟩), .pointer (some ⟨br, 0, none⟩)] w (GivesM (SetL fuel ext L U k v) n0 w hb ov ob cap deep kd ext) := by
  go_enter Tryz.func109, Tryz.ntmps109
  go_wp2_with fail
  refine Ord.region (fun W => Has W ([(br, vArr vR1, 36), (bv, vArr v, 36), (bk, kArr k, 40), (bi, #[.int .i64 1], 3), (bh, #[.pointer (some ⟨hb, 0, none⟩)], 25)])) [9, 10, 11, 12] (by kernel_rfl) (cur.drew.has (by simp)) ?_
  intro hS
  replace cur := cur.drew
  refine Ord.tk 0 7 rfl rfl (yields_load1 (by rfl) 25 _ rfl bh 0 rfl (.pointer (some ⟨hb, 0, none⟩)) Tryz.isAgg25 (fun W hSW => (hSW.blk 4 rfl).cell 0)) ?_
  refine Ord.tk 1 8 rfl rfl (yields_load1 (by rfl) 3 _ rfl bi 0 rfl (.int .i64 1) Tryz.isAgg3 (fun W hSW => (hSW.blk 3 rfl).cell 0)) ?_
  refine Ord.tk 3 10 rfl rfl (yields_load1 (by rfl) 25 _ rfl bh 0 rfl (.pointer (some ⟨hb, 0, none⟩)) Tryz.isAgg25 (fun W hSW => (hSW.blk 4 rfl).cell 0)) ?_
  refine Ord.tk 4 11 rfl rfl (yields_load1 (by rfl) 3 _ rfl bi 0 rfl (.int .i64 1) Tryz.isAgg3 (fun W hSW => (hSW.blk 3 rfl).cell 0)) ?_
  refine Ord.tk 5 12 rfl rfl (yieldsIf_load_mid (by rfl) 40 _ rfl bk 0 rfl ([.string k.str, .int .i64 k.sym]) _ (fun W hSW => range_all (hSW.blk 2 rfl)) Tryz.underlying40 rfl Tryz.size40) ?_
  refine Ord.tk 6 13 rfl rfl (yieldsIf_load_mid (by rfl) 36 _ rfl bv 0 rfl ([.int .i64 v.kind, .bool v.bool, .float .f64 v.num, .string v.str, .int .i64 v.id]) _ (fun W hSW => range_all (hSW.blk 1 rfl)) Tryz.underlying36 rfl Tryz.size36) ?_
  refine Ord.tk 7 14 rfl rfl (yieldsIf_load_mid (by rfl) 36 _ rfl br 0 rfl ([.int .i64 7, .bool false, .float .f64 0, .string ByteArray.empty, .int .i64 1]) _ (fun W hSW => range_all (hSW.blk 0 rfl)) Tryz.underlying36 rfl Tryz.size36) ?_
  refine Ord.step (i := 2) rfl (by kernel_rfl) (by rfl) ?_
  intro K HK
  go_simp
  go_at_call 108
  refine (does_any cur.s).mono ?_
  rintro e wX ⟨rfl, rfl⟩
  refine HK.out _ _ ?_
  clear HK
  refine Ord.kp ?_ ?_
  · exact cur.has (by simp)
  clear hS
  intro hS
  try simp only [List.setIfInBounds_toArray, List.set_cons_zero, List.set_cons_succ]
  refine Ord.step (i := 8) rfl (by kernel_rfl) (by rfl) ?_
  intro K HK
  have hm := sSet (hQ.keeps cur.k).blk
  go_simp
  go_at_call 216
  refine (set_any cur.s (hQ.keeps cur.k) hmv hf k v hpr hf2 hg hv hvn hn hl hr).mono ?_
  rintro e wY ⟨bx, fx, Lx, tpx, rfl, s9, k9, hset⟩
  replace cur := cur.go s9 k9
  refine HK.out _ _ ?_
  clear HK
  refine ⟨Ord.np (by kernel_rfl), ?_⟩
  try simp only [List.setIfInBounds_toArray, List.set_cons_zero, List.set_cons_succ]
  refine Ord.tf 9 16 rfl rfl ?_
  refine Ord.tf 10 17 rfl rfl ?_
  refine Ord.tf 11 5 rfl rfl ?_
  refine Ord.tf 12 6 rfl rfl ?_
  refine Ord.done (by kernel_rfl) ?_ _
  clear hS
  go_wp2
  go_ret2
  exact ⟨_, _, _, tpx, rfl, cur.s, cur.k, hset⟩


theorem wboolM {n0 : Nat} {w : World} {hb : Nat} {ov : Value} {ob : Nat} {tp : Option Addr} {cap fuel deep : Int} {kd : Kd} {ext : Bool} {L : List (Ky × Ds)} (s : StX n0 w hb ov ob tp cap fuel deep kd ext L) (hf : Can fuel deep kd) (g : FuncId) (lb : Array Value) (eg : ∀ args w, (callFunc g args).run Tryz.prog w = .ok (.enter g args) w) (Post : Int → List (Ky × Ds) → Prop)
    (cG : ∀ W1, StX n0 W1 hb ov ob tp cap (fuel - 1) (deep + 1) kd ext L → Keeps n0 w W1 → Calls Tryz.prog g lb W1 (GivesM Post n0 W1 hb ov ob cap (deep + 1) kd.up ext)) :
    Calls Tryz.prog 106 #[.pointer (some ⟨hb, 0, none⟩), .func (.func g) #[] lb] w (GivesM Post n0 w hb ov ob cap deep kd ext) := by
  have cE := enter_in s hf
  have HD := Lib.hid (show 0 ≤ deep ∧ deep < 1000 from ⟨hf.2.2.2.1, by have := hf.2.2.2.2; omega⟩)
  clear s hf
  go_enter_defers Tryz.func106, Tryz.ntmps106
  go_wp2_with fail
  refine cE.mono ?_
  rintro e w1 ⟨rfl, s1, k1⟩
  have cG1 := cG w1 s1 k1
  clear cE cG
  go_wp2_with (first | (go_at_fn g; refine cG1.mono ?_; rintro e w2 ⟨x, f2, L2, tp2, rfl, s2, k2, p2⟩))
  refine leaves_cons (f := 142) (args := #[.pointer (some ⟨hb, 0, none⟩)]) (by simp) (by simp [go_sem]) ?_
  refine (leave_st s2 HD.out .returning).mono ?_
  rintro e u' w3 ⟨rfl, rfl, s3, k3⟩
  exact ⟨_, results_tmp2 rfl _ _ _, x, f2, L2, tp2, rfl, s3, (k1.trans k2).trans k3, p2⟩
theorem seset {n0 : Nat} {w : World} {hb : Nat} {ov : Value} {ob : Nat} {tp : Option Addr} {cap fuel deep : Int} {kd : Kd} {ext : Bool} {L : List (Ky × Ds)} (s : StX n0 w hb ov ob tp cap fuel deep kd ext L) {xb g uc : Nat} {sb : ByteArray} {A : Option Addr} {U : List Int} (hQ : SAt w xb sb g uc A U) (hmv : kd.mv = .iface 103 (.pointer (some ⟨xb, 0, none⟩))) (hf : Can fuel deep kd) (k : Ky) (v : V) (hpr : kd.proto = vN) (hd1 : deep + 1 < kd.dp) (hf3 : 3 < fuel) (hg : kgood k = true) (hv : Dc.good uvalid v = true) (hvn : v.num < 2 ^ 64) (hn : LNums L) (hl : LOk L) (hr : NoRef L) : Calls Tryz.prog 57 #[.pointer (some ⟨hb, 0, none⟩), .int .i64 1, .agg (kArr k), .agg (vArr v), .agg (vArr vR1)] w (GivesM (SetL (fuel - 1) ext L U k v) n0 w hb ov ob cap deep kd ext) := by
  have cur := Bag.start s
  clear s
  have hf1 : Can (fuel - 1) (deep + 1) kd := ⟨by omega, by have := hf.2.1; omega, hf.2.2.1, by have := hf.2.2.2.1; omega, hd1, hf.2.2.2.2.2⟩
  go_enter Tryz.func57, Tryz.ntmps57
  go_wp2_with (first | ((with_reducible show wpList _ _ _ (⟨_, .box 25 _, _, _, _, _⟩ :: _) _ _); refine wpList_box1 rfl 25 _ rfl (.pointer (some ⟨hb, 0, none⟩)) rfl rfl ?_; intro wa hB hL hs; replace cur := cur.push hL hB (Nat.le_refl _) rfl; clear hB hL hs) | ((with_reducible show wpList _ _ _ (⟨_, .box 3 _, _, _, _, _⟩ :: _) _ _); refine wpList_box1 rfl 3 _ rfl (.int .i64 1) rfl rfl ?_; intro wb hB hL hs; replace cur := cur.push hL hB (Nat.le_refl _) rfl; clear hB hL hs) | ((with_reducible show wpList _ _ _ (⟨_, .box 40 _, _, _, _, _⟩ :: _) _ _); refine wpList_box_blk rfl 40 _ rfl (kArr k) rfl ?_; intro wc hB hL hs; replace cur := cur.push hL hB (Nat.le_refl _) rfl; clear hB hL hs) | ((with_reducible show wpList _ _ _ (⟨_, .box 36 (.tmp 3), _, _, _, _⟩ :: _) _ _); refine wpList_box_blk rfl 36 _ rfl (vArr v) rfl ?_; intro wv hB hL hs; replace cur := cur.push hL hB (Nat.le_refl _) rfl; clear hB hL hs) | ((with_reducible show wpList _ _ _ (⟨_, .box 36 (.tmp 4), _, _, _, _⟩ :: _) _ _); refine wpList_box_blk rfl 36 _ rfl (vArr vR1) rfl ?_; intro wr hB hL hs; replace cur := cur.push hL hB (Nat.le_refl _) rfl; clear hB hL hs) | ((with_reducible show wpList _ _ _ (⟨_, .load 25 (.tmp 5), _, _, _, _⟩ :: _) _ _); refine wpList_load1 (by rfl) 25 _ rfl _ 0 rfl (.pointer (some ⟨hb, 0, none⟩)) (Tryz.isAgg25 _) ((cur.blk 4 rfl).cell 0) ?_) | (go_at_call 106; refine (wboolM cur.s hf 109 _ (enters_of Tryz.func109 (by kernel_rfl) rfl) (SetL (fuel - 1) ext L U k v) (fun W1 s1 k1 => (scset ((hQ.keeps cur.k).keeps k1) hmv hf1 k v hpr (by omega) hg hv hvn hn hl hr (cur.go s1 k1).again).mono (fun _ _ h => h.up hf.2.2.1))).mono ?_; rintro e wX ⟨bx, fx, Lx, tpx, rfl, s9, k9, hset⟩; replace cur := cur.go s9 k9))
  go_ret2
  exact ⟨bx, fx, Lx, tpx, rfl, cur.s, cur.k, hset⟩


end Go.Proofs.YtoalboilghgalaaGreatDoor

/- Delete, Get and OwnPropertyKeys of a String object: the closures, Enter.. -/
namespace Go.Proofs.YtoalboilghgalaaGreatDoor
open Go.RowKit
open Go.Proofs.Dc (V Ds Ky)
attribute [local go_sem] run_store_float

/-- what delete answers and leaves -/
def delBS (L : List (Ky × Ds)) (U : List Int) (k : Ky) : Bool := match ownS L U k with
  | some d => if d.c = 1 then false else true
  | none => true
def delLS (L : List (Ky × Ds)) (U : List Int) (k : Ky) : List (Ky × Ds) := match ownS L U k with
  | some d => if d.c = 1 then L else delL L k
  | none => L
theorem unitD_c {U : List Int} {k : Ky} {u : Ds} (h : unitD U k = some u) : u.c = 1 := by
  unfold unitD at h
  split at h
  · rename_i i _
    cases hx : U[i]? with
    | none => rw [hx] at h; cases h
    | some x => rw [hx] at h; cases h; rfl
  · cases h
/-- the powers of ten stand, whatever the heap does -/
def PowK (n0 : Nat) (w : World) : Prop := ∀ W, Keeps n0 w W → PowT W
theorem PowK.keeps {n0 : Nat} {w w' : World} (h : PowK n0 w) (k : Keeps n0 w w') : PowK n0 w' := fun W hk => h W (k.trans hk)

theorem sdele_any {n0 : Nat} {w : World} {hb : Nat} {ov : Value} {ob : Nat} {tp : Option Addr} {cap fuel deep : Int} {kd : Kd} {ext : Bool} {L : List (Ky × Ds)} (s : StX n0 w hb ov ob tp cap fuel deep kd ext L) {xb g uc : Nat} {sb : ByteArray} {A : Option Addr} {U : List Int} (hS : SAt w xb sb g uc A U) (hmv : kd.mv = .iface 103 (.pointer (some ⟨xb, 0, none⟩))) (k : Ky) (hne : delLS L U k ≠ []) : Calls Tryz.prog 208 #[.agg #[], .pointer (some ⟨hb, 0, none⟩), .int .i64 1, .agg (kArr k)] w fun e w' => DefPost n0 w hb ov ob cap fuel deep kd ext (delBS L U k) (delLS L U k) e w' := by
  unfold delLS at hne ⊢
  unfold delBS
  cases ho : ownS L U k with
  | none => exact sdel_none s hS hmv k ho
  | some d =>
    rw [ho] at hne
    simp only at hne ⊢
    by_cases hc : d.c = 1
    · rw [if_pos hc, if_pos hc]
      exact sdel_no s hS hmv k d ho hc
    · rw [if_neg hc] at hne
      rw [if_neg hc, if_neg hc]
      have hk : getL L k ≠ none := fun hg => by
        unfold ownS at ho
        rw [hg] at ho
        exact hc (unitD_c ho)
      exact sdel_yes s hS hmv k d ho hc hk hne

theorem scdel {n0 : Nat} {w : World} {hb : Nat} {ov : Value} {ob : Nat} {tp : Option Addr} {cap fuel deep : Int} {kd : Kd} {ext : Bool} {L : List (Ky × Ds)} {xb g uc : Nat} {sb : ByteArray} {A : Option Addr} {U : List Int} (hQ : SAt w xb sb g uc A U) (hmv : kd.mv = .iface 103 (.pointer (some ⟨xb, 0, none⟩))) {bh bi bk : Nat} (k : Ky) (hne : delLS L U k ≠ []) (cur : Bag n0 w w hb ov ob tp cap fuel deep kd ext L [(bk, kArr k, 40), (bi, #[.int .i64 1], 3), (bh, #[.pointer (some ⟨hb, 0, none⟩)], 25)]) : Calls Tryz.prog 110 #[.pointer (some ⟨bh, 0, none⟩), .pointer (some ⟨bi, 0, none⟩), .pointer (some ⟨bk, 0, none⟩)] w (Gives (fun x => .bool x) (fun x _ => x = delBS L U k) n0 w hb ov ob cap fuel deep kd ext (delLS L U k)) := by
  go_enter Tryz.func110, Tryz.ntmps110
  go_wp2_with fail
  refine Ord.region (fun W => Has W ([(bk, kArr k, 40), (bi, #[.int .i64 1], 3), (bh, #[.pointer (some ⟨hb, 0, none⟩)], 25)])) [7, 8, 9, 10] (by kernel_rfl) (cur.drew.has (by simp)) ?_
  intro hS
  replace cur := cur.drew
  refine Ord.tk 0 5 rfl rfl (yields_load1 (by rfl) 25 _ rfl bh 0 rfl (.pointer (some ⟨hb, 0, none⟩)) Tryz.isAgg25 (fun W hSW => (hSW.blk 2 rfl).cell 0)) ?_
  refine Ord.tk 1 6 rfl rfl (yields_load1 (by rfl) 3 _ rfl bi 0 rfl (.int .i64 1) Tryz.isAgg3 (fun W hSW => (hSW.blk 1 rfl).cell 0)) ?_
  refine Ord.tk 3 8 rfl rfl (yields_load1 (by rfl) 25 _ rfl bh 0 rfl (.pointer (some ⟨hb, 0, none⟩)) Tryz.isAgg25 (fun W hSW => (hSW.blk 2 rfl).cell 0)) ?_
  refine Ord.tk 4 9 rfl rfl (yields_load1 (by rfl) 3 _ rfl bi 0 rfl (.int .i64 1) Tryz.isAgg3 (fun W hSW => (hSW.blk 1 rfl).cell 0)) ?_
  refine Ord.tk 5 10 rfl rfl (yieldsIf_load_mid (by rfl) 40 _ rfl bk 0 rfl ([.string k.str, .int .i64 k.sym]) _ (fun W hSW => range_all (hSW.blk 0 rfl)) Tryz.underlying40 rfl Tryz.size40) ?_
  refine Ord.step (i := 2) rfl (by kernel_rfl) (by rfl) ?_
  intro K HK
  go_simp
  go_at_call 108
  refine (does_any cur.s).mono ?_
  rintro e wX ⟨rfl, rfl⟩
  refine HK.out _ _ ?_
  clear HK
  refine Ord.kp ?_ ?_
  · exact cur.has (by simp)
  clear hS
  intro hS
  try simp only [List.setIfInBounds_toArray, List.set_cons_zero, List.set_cons_succ]
  refine Ord.step (i := 6) rfl (by kernel_rfl) (by rfl) ?_
  intro K HK
  have hm := sDelete (hQ.keeps cur.k).blk
  go_simp
  go_at_call 208
  refine (sdele_any cur.s (hQ.keeps cur.k) hmv k hne).mono ?_
  rintro e wY ⟨rfl, tp9, s9, k9⟩
  replace cur := cur.go s9 k9
  refine HK.out _ _ ?_
  clear HK
  refine ⟨Ord.np (by kernel_rfl), ?_⟩
  try simp only [List.setIfInBounds_toArray, List.set_cons_zero, List.set_cons_succ]
  refine Ord.tf 7 12 rfl rfl ?_
  refine Ord.tf 8 13 rfl rfl ?_
  refine Ord.tf 9 3 rfl rfl ?_
  refine Ord.tf 10 4 rfl rfl ?_
  refine Ord.done (by kernel_rfl) ?_ _
  clear hS
  go_wp2
  go_ret2
  exact ⟨_, tp9, rfl, cur.s, cur.k, rfl⟩


theorem sedel {n0 : Nat} {w : World} {hb : Nat} {ov : Value} {ob : Nat} {tp : Option Addr} {cap fuel deep : Int} {kd : Kd} {ext : Bool} {L : List (Ky × Ds)} (s : StX n0 w hb ov ob tp cap fuel deep kd ext L) {xb g uc : Nat} {sb : ByteArray} {A : Option Addr} {U : List Int} (hQ : SAt w xb sb g uc A U) (hmv : kd.mv = .iface 103 (.pointer (some ⟨xb, 0, none⟩))) (hf : Can fuel deep kd) (k : Ky) (hne : delLS L U k ≠ []) : Calls Tryz.prog 60 #[.pointer (some ⟨hb, 0, none⟩), .int .i64 1, .agg (kArr k)] w (DidS (.tuple #[.bool (delBS L U k), .nilIface]) n0 w hb ov ob cap (fuel - 1) deep kd ext (delLS L U k)) := by
  have cur := Bag.start s
  clear s
  go_enter Tryz.func60, Tryz.ntmps60
  go_wp2_with (first | ((with_reducible show wpList _ _ _ (⟨_, .box 25 _, _, _, _, _⟩ :: _) _ _); refine wpList_box1 rfl 25 _ rfl (.pointer (some ⟨hb, 0, none⟩)) rfl rfl ?_; intro wa hB hL hs; replace cur := cur.push hL hB (Nat.le_refl _) rfl; clear hB hL hs) | ((with_reducible show wpList _ _ _ (⟨_, .box 3 _, _, _, _, _⟩ :: _) _ _); refine wpList_box1 rfl 3 _ rfl (.int .i64 1) rfl rfl ?_; intro wb hB hL hs; replace cur := cur.push hL hB (Nat.le_refl _) rfl; clear hB hL hs) | ((with_reducible show wpList _ _ _ (⟨_, .box 40 _, _, _, _, _⟩ :: _) _ _); refine wpList_box_blk rfl 40 _ rfl (kArr k) rfl ?_; intro wc hB hL hs; replace cur := cur.push hL hB (Nat.le_refl _) rfl; clear hB hL hs) | ((with_reducible show wpList _ _ _ (⟨_, .load 25 (.tmp 3), _, _, _, _⟩ :: _) _ _); refine wpList_load1 (by rfl) 25 _ rfl _ 0 rfl (.pointer (some ⟨hb, 0, none⟩)) (Tryz.isAgg25 _) ((cur.blk 2 rfl).cell 0) ?_) | (go_at_call 106; refine (wbool_in cur.s hf 110 _ (enters_of Tryz.func110 (by kernel_rfl) rfl) (fun x _ => x = delBS L U k) (fun _ _ _ h _ => h) (fun W1 s1 k1 => (scdel ((hQ.keeps cur.k).keeps k1) hmv k hne (cur.go s1 k1).again).mono (fun _ _ h => h.up hf.2.2.1))).mono ?_; rintro e wX ⟨x, tp', rfl, s9, k9, rfl⟩; replace cur := cur.go s9 k9))
  go_ret2
  exact ⟨tp', rfl, cur.s, cur.k⟩

theorem scval {n0 : Nat} {w : World} {hb : Nat} {ov : Value} {ob : Nat} {tp : Option Addr} {cap fuel deep : Int} {kd : Kd} {ext : Bool} {L : List (Ky × Ds)} {xb g uc : Nat} {sb : ByteArray} {A : Option Addr} {U : List Int} (hQ : SAt w xb sb g uc A U) (hmv : kd.mv = .iface 103 (.pointer (some ⟨xb, 0, none⟩))) {bh bi bk br : Nat} (k : Ky) (rv : V) (d : Ds) (ho : ownS L U k = some d) (hdt : (Dc.kindB uvalid d && Dc.kindN uvalid d == 1) = true) (hnd : Nums d) (cur : Bag n0 w w hb ov ob tp cap fuel deep kd ext L [(br, vArr rv, 36), (bk, kArr k, 40), (bi, #[.int .i64 1], 3), (bh, #[.pointer (some ⟨hb, 0, none⟩)], 25)]) : Calls Tryz.prog 115 #[.pointer (some ⟨bh, 0, none⟩), .pointer (some ⟨bi, 0, none⟩), .pointer (some ⟨bk, 0, none⟩), .pointer (some ⟨br, 0, none⟩)] w (Gives (α := V) (fun x => .agg (vArr x)) (fun x _ => x = d.val) n0 w hb ov ob cap fuel deep kd ext L) := by
  go_enter Tryz.func115, Tryz.ntmps115
  go_wp2_with ((with_reducible show wpList _ _ _ (⟨_, .alloc 36, _, _, _, _⟩ :: _) _ _); refine wpList_alloc_blk rfl 36 rfl (vArr Dc.v0) zero36 ?_; intro wa hB hL hs; replace cur := cur.push hL hB (Nat.le_refl _) rfl; clear hB hL hs)
  refine Ord.region (fun W => Has W ([(br, vArr rv, 36), (bk, kArr k, 40), (bi, #[.int .i64 1], 3), (bh, #[.pointer (some ⟨hb, 0, none⟩)], 25)])) [9, 11] (by kernel_rfl) (cur.drew.has (by simp)) ?_
  intro hS
  replace cur := cur.drew
  refine Ord.tk 0 6 rfl rfl (yields_load1 (by rfl) 25 _ rfl bh 0 rfl (.pointer (some ⟨hb, 0, none⟩)) Tryz.isAgg25 (fun W hSW => (hSW.blk 3 rfl).cell 0)) ?_
  refine Ord.tk 1 7 rfl rfl (yields_load1 (by rfl) 3 _ rfl bi 0 rfl (.int .i64 1) Tryz.isAgg3 (fun W hSW => (hSW.blk 2 rfl).cell 0)) ?_
  refine Ord.tk 3 9 rfl rfl (yields_load1 (by rfl) 25 _ rfl bh 0 rfl (.pointer (some ⟨hb, 0, none⟩)) Tryz.isAgg25 (fun W hSW => (hSW.blk 3 rfl).cell 0)) ?_
  refine Ord.tk 4 10 rfl rfl (yields_load1 (by rfl) 3 _ rfl bi 0 rfl (.int .i64 1) Tryz.isAgg3 (fun W hSW => (hSW.blk 2 rfl).cell 0)) ?_
  refine Ord.tk 5 11 rfl rfl (yieldsIf_load_mid (by rfl) 40 _ rfl bk 0 rfl ([.string k.str, .int .i64 k.sym]) _ (fun W hSW => range_all (hSW.blk 1 rfl)) Tryz.underlying40 rfl Tryz.size40) ?_
  refine Ord.tk 6 12 rfl rfl (yieldsIf_load_mid (by rfl) 36 _ rfl br 0 rfl ([.int .i64 rv.kind, .bool rv.bool, .float .f64 rv.num, .string rv.str, .int .i64 rv.id]) _ (fun W hSW => range_all (hSW.blk 0 rfl)) Tryz.underlying36 rfl Tryz.size36) ?_
  refine Ord.step (i := 2) rfl (by kernel_rfl) (by rfl) ?_
  intro K HK
  go_simp
  go_at_call 108
  refine (does_any cur.s).mono ?_
  rintro e wX ⟨rfl, rfl⟩
  refine HK.out _ _ ?_
  clear HK
  refine Ord.kp ?_ ?_
  · exact cur.has (by simp)
  clear hS
  intro hS
  try simp only [List.setIfInBounds_toArray, List.set_cons_zero, List.set_cons_succ]
  refine Ord.step (i := 7) rfl (by kernel_rfl) (by rfl) ?_
  intro K HK
  have hm := sGet (hQ.keeps cur.k).blk
  go_simp
  go_at_call 209
  refine (sget_data cur.s (hQ.keeps cur.k) hmv k rv d ho hdt hnd).mono ?_
  rintro e wY ⟨rfl, s9, k9⟩
  replace cur := cur.go s9 k9
  refine HK.out _ _ ?_
  clear HK
  refine Ord.kp ?_ ?_
  · exact cur.has (by simp)
  clear hS
  intro hS
  try simp only [List.setIfInBounds_toArray, List.set_cons_zero, List.set_cons_succ]
  refine Ord.tp 8 14 rfl rfl ?_
  refine Ord.tf 9 15 rfl rfl ?_
  refine Ord.step (i := 10) rfl (by kernel_rfl) (by rfl) ?_
  intro K HK
  refine store_blk_op 36 (.tmp 4) (.tmp 14) rfl w.heap.size (vArr d.val) (vArr Dc.v0) 36 rfl rfl (cur.blk 0 rfl) Tryz.size36 rfl (vArr_one _) ?_
  intro wi hBi hOi
  replace cur := cur.set 0 rfl hOi hBi (Nat.le_refl _)
  clear hBi hOi
  refine HK.out _ _ ?_
  clear HK
  refine ⟨Ord.np (by kernel_rfl), ?_⟩
  try simp only [List.setIfInBounds_toArray, List.set_cons_zero, List.set_cons_succ]
  refine Ord.tf 11 5 rfl rfl ?_
  refine Ord.done (by kernel_rfl) ?_ _
  clear hS
  go_wp2
  exact bodyPost_ret (results_cell_tmp Tryz.results115 rfl (cur.blk 0 rfl) Tryz.row36 Tryz.size36) rfl ⟨_, tp, rfl, cur.s, cur.k, rfl⟩


theorem seval {n0 : Nat} {w : World} {hb : Nat} {ov : Value} {ob : Nat} {tp : Option Addr} {cap fuel deep : Int} {kd : Kd} {ext : Bool} {L : List (Ky × Ds)} (s : StX n0 w hb ov ob tp cap fuel deep kd ext L) {xb g uc : Nat} {sb : ByteArray} {A : Option Addr} {U : List Int} (hQ : SAt w xb sb g uc A U) (hmv : kd.mv = .iface 103 (.pointer (some ⟨xb, 0, none⟩))) (hf : Can fuel deep kd) (k : Ky) (rv : V) (d : Ds) (ho : ownS L U k = some d) (hdt : (Dc.kindB uvalid d && Dc.kindN uvalid d == 1) = true) (hnd : Nums d) : Calls Tryz.prog 64 #[.pointer (some ⟨hb, 0, none⟩), .int .i64 1, .agg (kArr k), .agg (vArr rv)] w (DidS (.tuple #[.agg (vArr d.val), .nilIface]) n0 w hb ov ob cap (fuel - 1) deep kd ext L) := by
  have cur := Bag.start s
  clear s
  go_enter Tryz.func64, Tryz.ntmps64
  go_wp2_with (first | ((with_reducible show wpList _ _ _ (⟨_, .box 25 _, _, _, _, _⟩ :: _) _ _); refine wpList_box1 rfl 25 _ rfl (.pointer (some ⟨hb, 0, none⟩)) rfl rfl ?_; intro wa hB hL hs; replace cur := cur.push hL hB (Nat.le_refl _) rfl; clear hB hL hs) | ((with_reducible show wpList _ _ _ (⟨_, .box 3 _, _, _, _, _⟩ :: _) _ _); refine wpList_box1 rfl 3 _ rfl (.int .i64 1) rfl rfl ?_; intro wb hB hL hs; replace cur := cur.push hL hB (Nat.le_refl _) rfl; clear hB hL hs) | ((with_reducible show wpList _ _ _ (⟨_, .box 40 _, _, _, _, _⟩ :: _) _ _); refine wpList_box_blk rfl 40 _ rfl (kArr k) rfl ?_; intro wc hB hL hs; replace cur := cur.push hL hB (Nat.le_refl _) rfl; clear hB hL hs) | ((with_reducible show wpList _ _ _ (⟨_, .box 36 _, _, _, _, _⟩ :: _) _ _); refine wpList_box_blk rfl 36 _ rfl (vArr rv) rfl ?_; intro wd hB hL hs; replace cur := cur.push hL hB (Nat.le_refl _) rfl; clear hB hL hs) | ((with_reducible show wpList _ _ _ (⟨some 8, .alloc 36, _, _, _, _⟩ :: _) _ _); refine wpList_alloc_blk rfl 36 rfl (vArr Dc.v0) zero36 ?_; intro wr hB hL hs; have hler := cur.k.size; replace cur := cur.push hL hB (Nat.le_refl _) rfl; clear hB hL hs) | ((with_reducible show wpList _ _ _ (⟨_, .load 25 (.tmp 4), _, _, _, _⟩ :: _) _ _); refine wpList_load1 (by rfl) 25 _ rfl _ 0 rfl (.pointer (some ⟨hb, 0, none⟩)) (Tryz.isAgg25 _) ((cur.blk 4 rfl).cell 0) ?_) | (go_at_call 114; refine (wval_in cur.s hf 115 _ (enters_of Tryz.func115 (by kernel_rfl) rfl) (fun x => x = d.val) (fun W1 s1 k1 => (scval ((hQ.keeps cur.k).keeps k1) hmv k rv d ho hdt hnd (cur.go s1 k1).again.tail).mono (fun _ _ h => h.up hf.2.2.1))).mono ?_; rintro e wX ⟨x, tp', rfl, s9, k9, rfl⟩; replace cur := cur.go s9 k9) | ((with_reducible show wpList _ _ _ (⟨_, .store 36 (.tmp 8) _, _, _, _, _⟩ :: _) _ _); refine wpList_store_blk rfl 36 _ _ rfl _ (vArr d.val) _ 36 rfl rfl (cur.blk 0 rfl) Tryz.size36 rfl (vArr_one _) ?_; intro wg hB hO; replace cur := cur.set 0 rfl hO hB hler; clear hB hO))
  exact bodyPost_ret (results_cell_tmp Tryz.results64 rfl (cur.blk 0 rfl) Tryz.row36 Tryz.size36) rfl ⟨tp', rfl, cur.s, cur.k⟩
theorem sckeys {n0 : Nat} {w : World} {hb : Nat} {ov : Value} {ob : Nat} {tp : Option Addr} {cap fuel deep : Int} {kd : Kd} {ext : Bool} {L : List (Ky × Ds)} {xb g uc : Nat} {sb : ByteArray} {A : Option Addr} {U : List Int} (hQ : SAt w xb sb g uc A U) (hmv : kd.mv = .iface 103 (.pointer (some ⟨xb, 0, none⟩))) {bh bi : Nat} (hP : PowK n0 w) (hg : LGood L) (hneL : L ≠ []) (hlen : L.length ≤ 1000000) (cur : Bag n0 w w hb ov ob tp cap fuel deep kd ext L [(bi, #[.int .i64 1], 3), (bh, #[.pointer (some ⟨hb, 0, none⟩)], 25)]) : Calls Tryz.prog 113 #[.pointer (some ⟨bh, 0, none⟩), .pointer (some ⟨bi, 0, none⟩)] w (Gives (α := Value) (fun x => x) (fun x W => KeysAt W 0 x (keysS U.length L)) n0 w hb ov ob cap fuel deep kd ext L) := by
  have hm := sKeys xb
  go_enter Tryz.func113, Tryz.ntmps113
  go_wp2_with fail
  refine Ord.region (fun W => Has W ([(bi, #[.int .i64 1], 3), (bh, #[.pointer (some ⟨hb, 0, none⟩)], 25)])) [6, 7, 8, 9] (by kernel_rfl) (cur.drew.has (by simp)) ?_
  intro hS
  replace cur := cur.drew
  refine Ord.tk 0 4 rfl rfl (yields_load1 (by rfl) 25 _ rfl bh 0 rfl (.pointer (some ⟨hb, 0, none⟩)) Tryz.isAgg25 (fun W hSW => (hSW.blk 1 rfl).cell 0)) ?_
  refine Ord.tk 1 5 rfl rfl (yields_load1 (by rfl) 3 _ rfl bi 0 rfl (.int .i64 1) Tryz.isAgg3 (fun W hSW => (hSW.blk 0 rfl).cell 0)) ?_
  refine Ord.tk 3 7 rfl rfl (yields_load1 (by rfl) 25 _ rfl bh 0 rfl (.pointer (some ⟨hb, 0, none⟩)) Tryz.isAgg25 (fun W hSW => (hSW.blk 1 rfl).cell 0)) ?_
  refine Ord.tk 4 8 rfl rfl (yields_load1 (by rfl) 3 _ rfl bi 0 rfl (.int .i64 1) Tryz.isAgg3 (fun W hSW => (hSW.blk 0 rfl).cell 0)) ?_
  refine Ord.step (i := 2) rfl (by kernel_rfl) (by rfl) ?_
  intro K HK
  go_simp
  go_at_call 108
  refine (does_any cur.s).mono ?_
  rintro e wX ⟨rfl, rfl⟩
  refine HK.out _ _ ?_
  clear HK
  refine Ord.kp ?_ ?_
  · exact cur.has (by simp)
  clear hS
  intro hS
  try simp only [List.setIfInBounds_toArray, List.set_cons_zero, List.set_cons_succ]
  refine Ord.step (i := 5) rfl (by kernel_rfl) (by rfl) ?_
  intro K HK
  go_simp
  go_at_call 214
  refine (skeys_any cur.s (hQ.keeps cur.k) (fun W hW => hP W (cur.k.trans (Keeps.of_below hW cur.s.sz))) hg hneL hlen).mono ?_
  rintro e wY ⟨v, rfl, hk, hb9⟩
  replace cur := cur.next hb9
  refine HK.out _ _ ?_
  clear HK
  refine ⟨Ord.np (by kernel_rfl), ?_⟩
  try simp only [List.setIfInBounds_toArray, List.set_cons_zero, List.set_cons_succ]
  refine Ord.tf 6 10 rfl rfl ?_
  refine Ord.tf 7 11 rfl rfl ?_
  refine Ord.tf 8 2 rfl rfl ?_
  refine Ord.tf 9 3 rfl rfl ?_
  refine Ord.done (by kernel_rfl) ?_ _
  clear hS
  go_wp2
  go_ret2
  exact ⟨v, tp, rfl, cur.s, cur.k, hk⟩


theorem sekeys {n0 : Nat} {w : World} {hb : Nat} {ov : Value} {ob : Nat} {tp : Option Addr} {cap fuel deep : Int} {kd : Kd} {ext : Bool} {L : List (Ky × Ds)} (s : StX n0 w hb ov ob tp cap fuel deep kd ext L) {xb g uc : Nat} {sb : ByteArray} {A : Option Addr} {U : List Int} (hQ : SAt w xb sb g uc A U) (hmv : kd.mv = .iface 103 (.pointer (some ⟨xb, 0, none⟩))) (hf : Can fuel deep kd) (hP : PowK n0 w) (hg : LGood L) (hneL : L ≠ []) (hlen : L.length ≤ 1000000) : Calls Tryz.prog 63 #[.pointer (some ⟨hb, 0, none⟩), .int .i64 1] w fun e w' => ∃ v tp, e = .returned (.tuple #[v, .nilIface]) ∧ KeysAt w' 0 v (keysS U.length L) ∧ StX n0 w' hb ov ob tp cap (fuel - 1) deep kd ext L ∧ Keeps n0 w w' := by
  have cur := Bag.start s
  clear s
  go_enter Tryz.func63, Tryz.ntmps63
  go_wp2_with (first | ((with_reducible show wpList _ _ _ (⟨_, .box 25 _, _, _, _, _⟩ :: _) _ _); refine wpList_box1 rfl 25 _ rfl (.pointer (some ⟨hb, 0, none⟩)) rfl rfl ?_; intro wa hB hL hs; replace cur := cur.push hL hB (Nat.le_refl _) rfl; clear hB hL hs) | ((with_reducible show wpList _ _ _ (⟨_, .box 3 _, _, _, _, _⟩ :: _) _ _); refine wpList_box1 rfl 3 _ rfl (.int .i64 1) rfl rfl ?_; intro wb hB hL hs; replace cur := cur.push hL hB (Nat.le_refl _) rfl; clear hB hL hs) | ((with_reducible show wpList _ _ _ (⟨_, .load 25 (.tmp 2), _, _, _, _⟩ :: _) _ _); refine wpList_load1 (by rfl) 25 _ rfl _ 0 rfl (.pointer (some ⟨hb, 0, none⟩)) (Tryz.isAgg25 _) ((cur.blk 1 rfl).cell 0) ?_) | (go_at_call 112; refine (wkeys_in cur.s hf 113 _ (enters_of Tryz.func113 (by kernel_rfl) rfl) (fun x W => KeysAt W 0 x (keysS U.length L)) (fun _ _ _ h hk => h.keeps hk) (fun W1 s1 k1 => (sckeys ((hQ.keeps cur.k).keeps k1) hmv (hP.keeps (cur.k.trans k1)) hg hneL hlen (cur.go s1 k1).again).mono (fun _ _ h => h.up hf.2.2.1))).mono ?_; rintro e wX ⟨x, tp', rfl, s9, k9, hk⟩; replace cur := cur.go s9 k9))
  go_ret2
  exact ⟨x, tp', rfl, hk, cur.s, cur.k⟩


end Go.Proofs.YtoalboilghgalaaGreatDoor
