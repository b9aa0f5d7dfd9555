/- a table of slots with entries: home, find. -/
import Derived.Test.YtnablplljilahaaV
import Derived.Test.YtnablplljilahaaG12
import Derived.Test.YtnablplljilahaaLSloA
namespace Go.Proofs.Ytnablplljilahaa.Slo
open Go.GV Go.RowKit Go.Slots
set_option linter.unusedVariables false
abbrev Key := List UInt8
abbrev SRow := List (Option (Key × List Value))
def slotC (k : Key) (v : List Value) : List Value := [Value.bool true] ++ (k.map bv ++ (v ++ []))
def SlotAt (cs : List Value) (i : Nat) : Option (Key × List Value) → Prop
  | none => cs[i * 71]? = some (.bool false)
  | some (k, v) => (k.length = 32 ∧ v.length = 38) ∧ ∀ j u, (slotC k v)[j]? = some u → cs[i * 71 + j]? = some u
structure TabC (N : Nat) (S : SRow) (cs : List Value) : Prop where
  len : cs.length = N * 71
  slen : S.length = N
  slot : ∀ i o, S[i]? = some o → SlotAt cs i o
  one : ∀ v ∈ cs, v.oneCell' = true
def rawHome (k : Key) : Nat := (k.getD 0 0).toNat + 256 * (k.getD 1 0).toNat
def homeOf (N : Nat) (k : Key) : Nat := rawHome k % N
/-- the table's two blocks -/
structure TabIn (w : World) (bt bs : Nat) (N : Nat) (S : SRow) (cnt : Int) (e e' : TypeId) (cs : List Value) : Prop where
  hd : RecAt w bt e [.slice (some ⟨bs, 0, none⟩) N N, .int .i64 cnt]
  sl : RecAt w bs e' cs
  ne : bt ≠ bs
  tab : TabC N S cs
def TabAt (w : World) (bt bs : Nat) (N : Nat) (S : SRow) (cnt : Int) : Prop := ∃ e e' cs, TabIn w bt bs N S cnt e e' cs
theorem TabAt.fr {D : Nat → Prop} {w w' : World} {bt bs N : Nat} {S : SRow} {cnt : Int} (f : Fr D w w') (h : TabAt w bt bs N S cnt) (h1 : ¬ D bt) (h2 : ¬ D bs) : TabAt w' bt bs N S cnt := by
  obtain ⟨e, e', cs, h⟩ := h
  exact ⟨e, e', cs, h.hd.fr f h1, h.sl.fr f h2, h.ne, h.tab⟩
theorem or8 (a b : Nat) (ha : a < 256) (hb : b < 256) : iOr .i64 (a : Int) ((b : Int) * 2 ^ 8) = ((a + 256 * b : Nat) : Int) := by
  have e1 : ((b : Int) * 2 ^ 8) = ((b * 256 : Nat) : Int) := by omega
  rw [e1]
  unfold iOr
  have e2 : ∀ n : Nat, n < 2 ^ 64 → (BitVec.ofInt 64 (n : Int)).toNat = n := fun n hn => by simp; omega
  have e3 : (BitVec.ofInt (IntKind.bits .i64) (a : Int) ||| BitVec.ofInt (IntKind.bits .i64) ((b * 256 : Nat) : Int)).toNat = a ||| (b * 256) := by
    show (BitVec.ofInt 64 (a : Int) ||| BitVec.ofInt 64 ((b * 256 : Nat) : Int)).toNat = _
    rw [BitVec.toNat_or, e2 a (by omega), e2 (b * 256) (by omega)]
  rw [e3]
  have e4 : a ||| (b * 256) = a + 256 * b := by
    have := Nat.shiftLeft_add_eq_or_of_lt (a := b) (b := a) (i := 8) (by omega)
    rw [Nat.shiftLeft_eq, show (2 : Nat) ^ 8 = 256 from rfl] at this
    rw [Nat.or_comm]
    omega
  rw [e4, i64_id (by omega) (by omega)]
theorem key_at {k : Key} {i : Nat} (h : i < k.length) : (k.map bv)[i]? = some (bv (k.getD i 0)) := by
  rw [List.getElem?_map, List.getElem?_eq_getElem h, List.getD_eq_getElem?_getD, List.getElem?_eq_getElem h]; rfl
theorem home_calls (bt bs N : Nat) (S : SRow) (cnt : Int) (k : Key) (w : World) (h : TabAt w bt bs N S cnt) (hk : k.length = 32) (hN : 0 < N) (hN2 : N < 1099511627776) :
    Calls Try.prog 47 #[.pointer (some ⟨bt, 0, none⟩), ofL (k.map bv)] w fun e w' => e = .returned (.int .i64 (homeOf N k)) ∧ Fr (fun _ => False) w w' := by
  refine (F47.of (some ⟨bt, 0, none⟩) (k.map bv) w (Q := fun v w' => v = .int .i64 (homeOf N k) ∧ Fr (fun _ => False) w w') ?_).mono (fun e w' ⟨v, he, hv, h⟩ => ⟨by rw [he, hv], h⟩)
  obtain ⟨e, e', cs, ht⟩ := h
  refine nw_mk ?_
  have f1 : Fr (fun _ => False) w (w.alloc (.cells (k.map bv).toArray 29)).drew := (Fr.alloc _ _ _).trans1 (Fr.drew _ _)
  have hr : RecAt (w.alloc (.cells (k.map bv).toArray 29)).drew w.heap.size 29 (k.map bv) := RecAt.new w _ _
  refine ⟨_, hr.cell (key_at (i := 0) (by omega)), _, hr.cell (key_at (i := 1) (by omega)), dr_mk ⟨_, _, _, (ht.hd.fr f1 (fun h => h)).cell rfl, gd_mk (decide_eq_true (by omega)) ⟨?_, f1⟩⟩⟩
  have h0 := (k.getD 0 0).toNat_lt
  have h1 := (k.getD 1 0).toNat_lt
  rw [i64_id (by omega) (by omega), i64_id (n := (((k.getD 1 0).toNat : Nat) : Int)) (by omega) (by omega), i64_id (by omega) (by omega), or8 _ _ (by omega) (by omega), tmod_nat]
  rfl
theorem homeOf_lt {N : Nat} (hN : 0 < N) (k : Key) : homeOf N k < N := Nat.mod_lt _ hN
theorem TabC.full {N : Nat} {S : SRow} {cs : List Value} (h : TabC N S cs) {i : Nat} (hi : i < N) : (Full S i ∧ cs[i * 71]? = some (.bool true)) ∨ (Free S i ∧ cs[i * 71]? = some (.bool false)) := by
  rcases full_or_free h.slen hi with ⟨k, v, hf⟩ | hf
  · left
    obtain ⟨_, h2⟩ := h.slot i _ hf
    exact ⟨⟨k, v, hf⟩, h2 0 _ rfl⟩
  · right
    exact ⟨hf, h.slot i _ hf⟩
theorem TabC.key {N : Nat} {S : SRow} {cs : List Value} (h : TabC N S cs) {i : Nat} {k : Key} {v : List Value} (hat : At S i k v) : k.length = 32 ∧ (∀ j u, (k.map bv)[j]? = some u → cs[i * 71 + 1 + j]? = some u) ∧ (v.length = 38 ∧ ∀ j u, v[j]? = some u → cs[i * 71 + 33 + j]? = some u) ∧ ∀ j u, (slotC k v)[j]? = some u → cs[i * 71 + j]? = some u := by
  obtain ⟨⟨h1, h3⟩, h2⟩ := h.slot i _ hat
  refine ⟨h1, fun j u hj => ?_, ⟨h3, fun j u hj => ?_⟩, h2⟩
  · have hjl := (List.getElem?_eq_some_iff.1 hj).1
    rw [Nat.add_assoc]
    refine h2 (1 + j) u ?_
    unfold slotC
    rw [List.getElem?_append_right (by simp), List.getElem?_append_left (by simp at hjl ⊢; omega)]
    simpa using hj
  · have hjl := (List.getElem?_eq_some_iff.1 hj).1
    rw [Nat.add_assoc]
    refine h2 (33 + j) u ?_
    unfold slotC
    rw [List.getElem?_append_right (by simp; omega), List.getElem?_append_right (by simp [h1]), List.append_nil]
    have : 33 + j - [Value.bool true].length - (k.map bv).length = j := by simp [h1]
    rw [this]; exact hj
theorem tmod1 {N i : Nat} (hN : 2 ≤ N) (hN2 : N < 1099511627776) (hi : i < N) : Int.tmod (IntKind.wrap .i64 ((i : Int) + 1)) (N : Int) = ((adv N i 1 : Nat) : Int) := by
  rw [i64_id (by omega) (by omega), show ((i : Int) + 1) = ((i + 1 : Nat) : Int) from rfl, tmod_nat, mod_adv hi (by omega), if_neg (by omega)]
theorem adv_adv {N h t : Nat} (hh : h < N) (ht : t + 1 < N) : adv N (adv N h t) 1 = adv N h (t + 1) := by unfold adv; split <;> split <;> split <;> omega
/-- find: where the search ends, and whether the key is there -/
theorem find_calls (bt bs N : Nat) (S : SRow) (cnt : Int) (k : Key) (w : World) (h : TabAt w bt bs N S cnt) (hk : k.length = 32) (hN : 2 ≤ N) (hN2 : N < 1099511627776) {f : Nat} (hfree : Free S f) :
    Calls Try.prog 34 #[.pointer (some ⟨bt, 0, none⟩), ofL (k.map bv)] w fun e w' => Fr (fun _ => False) w w' ∧ ∃ (t : Nat) (b : Bool), Slots.Ends (homeOf N) N S k t ∧ e = .returned (.tuple #[.int .i64 (adv N (homeOf N k) t : Nat), .bool b]) ∧ ((b = false ∧ Free S (adv N (homeOf N k) t)) ∨ (b = true ∧ ∃ v, At S (adv N (homeOf N k) t) k v)) := by
  refine (F34.of (some ⟨bt, 0, none⟩) (k.map bv) w (Q := fun v w' => Fr (fun _ => False) w w' ∧ ∃ (t : Nat) (b : Bool), Slots.Ends (homeOf N) N S k t ∧ v = .tuple #[.int .i64 (adv N (homeOf N k) t : Nat), .bool b] ∧ ((b = false ∧ Free S (adv N (homeOf N k) t)) ∨ (b = true ∧ ∃ v, At S (adv N (homeOf N k) t) k v))) ?_).mono (fun e w' ⟨v, he, hf, t, b, h1, hv, h2⟩ => ⟨hf, t, b, h1, by rw [he, hv], h2⟩)
  have hh := homeOf_lt (N := N) (by omega) k
  refine nw_mk ?_
  have f1 : Fr (fun _ => False) w (w.alloc (.cells (k.map bv).toArray 29)) := Fr.alloc _ _ _
  have hr : RecAt (w.alloc (.cells (k.map bv).toArray 29)) w.heap.size 29 (k.map bv) := RecAt.new w _ _
  have hs1 : w.heap.size < (w.alloc (.cells (k.map bv).toArray 29)).heap.size := by rw [alloc_size]; omega
  generalize w.alloc (.cells (k.map bv).toArray 29) = w1 at f1 hr hs1 ⊢
  refine ⟨k.map bv, by simp [hk], hr.cells (fun j v hj => by simpa using hj), (home_calls bt bs N S cnt k w1 (h.fr f1 (fun h => h) (fun h => h)) hk (by omega) hN2).mono ?_⟩
  rintro e w2 ⟨rfl, f2⟩
  have f12 := f1.trans1 f2
  have hr2 := hr.fr f2 (fun h => h)
  have hfl := hfree.lt (S := S) (by obtain ⟨_, _, _, ht⟩ := h; exact ht.tab.slen)
  refine ⟨_, rfl, jnC_mk ?_⟩
  refine loop_rule (fun s u => Fr (fun _ => False) w u ∧ RecAt u w.heap.size 29 (k.map bv) ∧ ∃ t : Nat, Slots.Ends (homeOf N) N S k t ∧ t ≤ dist N (homeOf N k) f ∧ s = (some ⟨bt, 0, none⟩, (w.heap.size, 0), ((adv N (homeOf N k) t : Nat) : Int), ()))
    (fun s _ => dist N (s.2.2.1).toNat f) ?_ _ _ ⟨f12, hr2, 0, ⟨by omega, fun t' h => by omega⟩, Nat.zero_le _, by
      have : adv N (homeOf N k) 0 = homeOf N k := by unfold adv; rw [if_pos (by omega), Nat.add_zero]
      rw [this]⟩
  rintro s u C ⟨hf, hru, t, hE, htf, rfl⟩ hC _
  obtain ⟨ty, ty', cs, ht⟩ := h.fr hf (fun h => h) (fun h => h)
  have hdl := dist_lt hh hfl
  have hil := adv_lt hh hE.lt
  generalize hi : adv N (homeOf N k) t = i at hil
  have hcs := ht.tab.full hil
  have hcell : ∃ b, cellAt u bs (0 + ((i : Int)).toNat * 71) = some (.bool b) ∧ ((b = true ∧ Full S i) ∨ (b = false ∧ Free S i)) := by
    rw [Int.toNat_natCast, Nat.zero_add]
    rcases hcs with ⟨h1, h2⟩ | ⟨h1, h2⟩
    · exact ⟨true, ht.sl.cell h2, .inl ⟨rfl, h1⟩⟩
    · exact ⟨false, ht.sl.cell h2, .inr ⟨rfl, h1⟩⟩
  obtain ⟨b, hb, hbb⟩ := hcell
  refine dr_mk ⟨_, _, _, ht.hd.cell rfl, dr_mk (gd_mk (decide_eq_true (Int.natCast_nonneg i)) (gd_mk (decide_eq_true (by show (i : Int) < (N : Int); omega)) ⟨b, hb, ?_⟩))⟩
  refine vIf_mk (fun hb0 => ?_) (fun hb1 => ?_)
  · have hb0 : b = false := by simpa using hb0
    rcases hbb with ⟨h1, _⟩ | ⟨_, h1⟩
    · rw [hb0] at h1; cases h1
    · exact ⟨hf, t, false, hE, by rw [hi], .inl ⟨rfl, by rw [hi]; exact h1⟩⟩
  · have hb1 : b = true := by simpa using hb1
    rcases hbb with ⟨_, h1⟩ | ⟨h1, _⟩
    · obtain ⟨k', v', hat⟩ := h1
      obtain ⟨hk', hkc, _, _⟩ := ht.tab.key hat
      refine ⟨k'.map bv, by simp [hk'], ht.sl.cells (o := 0 + i * 71 + 1) (fun j v hj => by rw [Nat.zero_add]; exact hkc j v hj), k.map bv, by simp [hk], hru.cells (fun j v hj => by simpa using hj), k', k, hk', hk, rfl, rfl, ?_⟩
      refine vIf_mk (fun he => ?_) (fun he => ?_)
      · have he : k' = k := by simpa using he
        subst he
        exact ⟨hf.trans1 (Fr.drew _ _), t, true, hE, by rw [hi], .inr ⟨rfl, v', by rw [hi]; exact hat⟩⟩
      · have he : k' ≠ k := by simpa using he
        have htne : t ≠ dist N (homeOf N k) f := by
          intro h1
          rw [h1, adv_dist hh hfl] at hi
          subst hi
          exact Full.not_free ⟨k', v', hat⟩ hfree
        refine dr_mk ⟨_, _, _, (show RecAt u.drew bt ty _ from ht.hd).cell rfl, gd_mk (decide_eq_true (by show (N : Int) ≠ 0; omega)) (jnC_mk (hC _ _ ⟨hf.trans1 (Fr.drew _ _), hru, t + 1, ⟨by omega, fun t' h1 => ?_⟩, by omega, ?_⟩ ?_))⟩
        · by_cases h2 : t' = t
          · subst h2; rw [hi]; exact ⟨k', v', hat, he⟩
          · exact hE.before t' (by omega)
        · show (_, (w.heap.size, 0), Int.tmod (IntKind.wrap .i64 ((i : Int) + 1)) (N : Int), ()) = _
          rw [tmod1 hN hN2 hil, ← hi, adv_adv hh (by omega)]
        · show dist N (Int.tmod (IntKind.wrap .i64 ((i : Int) + 1)) (N : Int)).toNat f < dist N (((adv N (homeOf N k) t : Nat) : Int)).toNat f
          rw [tmod1 hN hN2 hil, Int.toNat_natCast, Int.toNat_natCast, hi]
          have hif : i ≠ f := by
            intro h1; subst h1
            exact Full.not_free ⟨k', v', hat⟩ hfree
          unfold adv dist
          split <;> split <;> split <;> omega
    · rw [hb1] at h1; cases h1
end Go.Proofs.Ytnablplljilahaa.Slo
