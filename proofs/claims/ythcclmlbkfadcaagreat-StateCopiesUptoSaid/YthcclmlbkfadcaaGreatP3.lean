import Derived.Shelf.SlLaysF0
import Derived.Test.YthcclmlbkfadcaaGreatProg
import Derived.Shelf.SlSortCmp.WholeK
import Derived.Shelf.SlSortCmp.NoneTotal
import Derived.Test.YthcclmlbkfadcaaGreatP2
/- a table of slots with entries: home, find. -/
namespace Go.Proofs.YthcclmlbkfadcaaGreat.Slo
open Go.GV Go.RowKit Go.Slots
set_option linter.unusedVariables false
abbrev Key := List UInt8
abbrev SRow := List (Option (Key × List Value))
def slotC (k : Key) (v : List Value) : List Value := [Value.bool true] ++ (k.map bv ++ (v ++ []))
def SlotAt (cs : List Value) (i : Nat) : Option (Key × List Value) → Prop
  | none => cs[i * 71]? = some (.bool false)
  | some (k, v) => (k.length = 32 ∧ v.length = 38) ∧ ∀ j u, (slotC k v)[j]? = some u → cs[i * 71 + j]? = some u
structure TabC (N : Nat) (S : SRow) (cs : List Value) : Prop where
  len : cs.length = N * 71
  slen : S.length = N
  slot : ∀ i o, S[i]? = some o → SlotAt cs i o
  one : ∀ v ∈ cs, v.oneCell' = true
def rawHome (k : Key) : Nat := (k.getD 0 0).toNat + 256 * (k.getD 1 0).toNat
def homeOf (N : Nat) (k : Key) : Nat := rawHome k % N
/-- the table's two blocks -/
structure TabIn (w : World) (bt bs : Nat) (N : Nat) (S : SRow) (cnt : Int) (e e' : TypeId) (cs : List Value) : Prop where
  hd : RecAt w bt e [.slice (some ⟨bs, 0, none⟩) N N, .int .i64 cnt]
  sl : RecAt w bs e' cs
  ne : bt ≠ bs
  tab : TabC N S cs
def TabAt (w : World) (bt bs : Nat) (N : Nat) (S : SRow) (cnt : Int) : Prop := ∃ e e' cs, TabIn w bt bs N S cnt e e' cs
theorem TabAt.fr {D : Nat → Prop} {w w' : World} {bt bs N : Nat} {S : SRow} {cnt : Int} (f : Fr D w w') (h : TabAt w bt bs N S cnt) (h1 : ¬ D bt) (h2 : ¬ D bs) : TabAt w' bt bs N S cnt := by
  obtain ⟨e, e', cs, h⟩ := h
  exact ⟨e, e', cs, h.hd.fr f h1, h.sl.fr f h2, h.ne, h.tab⟩
theorem or8 (a b : Nat) (ha : a < 256) (hb : b < 256) : iOr .i64 (a : Int) ((b : Int) * 2 ^ 8) = ((a + 256 * b : Nat) : Int) := by
  have e1 : ((b : Int) * 2 ^ 8) = ((b * 256 : Nat) : Int) := by omega
  rw [e1]
  unfold iOr
  have e2 : ∀ n : Nat, n < 2 ^ 64 → (BitVec.ofInt 64 (n : Int)).toNat = n := fun n hn => by simp; omega
  have e3 : (BitVec.ofInt (IntKind.bits .i64) (a : Int) ||| BitVec.ofInt (IntKind.bits .i64) ((b * 256 : Nat) : Int)).toNat = a ||| (b * 256) := by
    show (BitVec.ofInt 64 (a : Int) ||| BitVec.ofInt 64 ((b * 256 : Nat) : Int)).toNat = _
    rw [BitVec.toNat_or, e2 a (by omega), e2 (b * 256) (by omega)]
  rw [e3]
  have e4 : a ||| (b * 256) = a + 256 * b := by
    have := Nat.shiftLeft_add_eq_or_of_lt (a := b) (b := a) (i := 8) (by omega)
    rw [Nat.shiftLeft_eq, show (2 : Nat) ^ 8 = 256 from rfl] at this
    rw [Nat.or_comm]
    omega
  rw [e4, i64_id (by omega) (by omega)]
theorem key_at {k : Key} {i : Nat} (h : i < k.length) : (k.map bv)[i]? = some (bv (k.getD i 0)) := by
  rw [List.getElem?_map, List.getElem?_eq_getElem h, List.getD_eq_getElem?_getD, List.getElem?_eq_getElem h]; rfl
theorem home_calls (bt bs N : Nat) (S : SRow) (cnt : Int) (k : Key) (w : World) (h : TabAt w bt bs N S cnt) (hk : k.length = 32) (hN : 0 < N) (hN2 : N < 1099511627776) :
    Calls Tryz.prog 135 #[.pointer (some ⟨bt, 0, none⟩), ofL (k.map bv)] w fun e w' => e = .returned (.int .i64 (homeOf N k)) ∧ Fr (fun _ => False) w w' := by
  refine (F135.of (some ⟨bt, 0, none⟩) (k.map bv) w (Q := fun v w' => v = .int .i64 (homeOf N k) ∧ Fr (fun _ => False) w w') ?_).mono (fun e w' ⟨v, he, hv, h⟩ => ⟨by rw [he, hv], h⟩)
  obtain ⟨e, e', cs, ht⟩ := h
  refine nw_mk ?_
  have f1 : Fr (fun _ => False) w (w.alloc (.cells (k.map bv).toArray 33)).drew := (Fr.alloc _ _ _).trans1 (Fr.drew _ _)
  have hr : RecAt (w.alloc (.cells (k.map bv).toArray 33)).drew w.heap.size 33 (k.map bv) := RecAt.new w _ _
  refine ⟨_, hr.cell (key_at (i := 0) (by omega)), _, hr.cell (key_at (i := 1) (by omega)), dr_mk ⟨_, _, _, (ht.hd.fr f1 (fun h => h)).cell rfl, gd_mk (decide_eq_true (by omega)) ⟨?_, f1⟩⟩⟩
  have h0 := (k.getD 0 0).toNat_lt
  have h1 := (k.getD 1 0).toNat_lt
  rw [i64_id (by omega) (by omega), i64_id (n := (((k.getD 1 0).toNat : Nat) : Int)) (by omega) (by omega), i64_id (by omega) (by omega), or8 _ _ (by omega) (by omega), tmod_nat]
  rfl
theorem homeOf_lt {N : Nat} (hN : 0 < N) (k : Key) : homeOf N k < N := Nat.mod_lt _ hN
theorem TabC.full {N : Nat} {S : SRow} {cs : List Value} (h : TabC N S cs) {i : Nat} (hi : i < N) : (Full S i ∧ cs[i * 71]? = some (.bool true)) ∨ (Free S i ∧ cs[i * 71]? = some (.bool false)) := by
  rcases full_or_free h.slen hi with ⟨k, v, hf⟩ | hf
  · left
    obtain ⟨_, h2⟩ := h.slot i _ hf
    exact ⟨⟨k, v, hf⟩, h2 0 _ rfl⟩
  · right
    exact ⟨hf, h.slot i _ hf⟩
theorem TabC.key {N : Nat} {S : SRow} {cs : List Value} (h : TabC N S cs) {i : Nat} {k : Key} {v : List Value} (hat : At S i k v) : k.length = 32 ∧ (∀ j u, (k.map bv)[j]? = some u → cs[i * 71 + 1 + j]? = some u) ∧ (v.length = 38 ∧ ∀ j u, v[j]? = some u → cs[i * 71 + 33 + j]? = some u) ∧ ∀ j u, (slotC k v)[j]? = some u → cs[i * 71 + j]? = some u := by
  obtain ⟨⟨h1, h3⟩, h2⟩ := h.slot i _ hat
  refine ⟨h1, fun j u hj => ?_, ⟨h3, fun j u hj => ?_⟩, h2⟩
  · have hjl := (List.getElem?_eq_some_iff.1 hj).1
    rw [Nat.add_assoc]
    refine h2 (1 + j) u ?_
    unfold slotC
    rw [List.getElem?_append_right (by simp), List.getElem?_append_left (by simp at hjl ⊢; omega)]
    simpa using hj
  · have hjl := (List.getElem?_eq_some_iff.1 hj).1
    rw [Nat.add_assoc]
    refine h2 (33 + j) u ?_
    unfold slotC
    rw [List.getElem?_append_right (by simp; omega), List.getElem?_append_right (by simp [h1]), List.append_nil]
    have : 33 + j - [Value.bool true].length - (k.map bv).length = j := by simp [h1]
    rw [this]; exact hj
theorem tmod1 {N i : Nat} (hN : 2 ≤ N) (hN2 : N < 1099511627776) (hi : i < N) : Int.tmod (IntKind.wrap .i64 ((i : Int) + 1)) (N : Int) = ((adv N i 1 : Nat) : Int) := by
  rw [i64_id (by omega) (by omega), show ((i : Int) + 1) = ((i + 1 : Nat) : Int) from rfl, tmod_nat, mod_adv hi (by omega), if_neg (by omega)]
theorem adv_adv {N h t : Nat} (hh : h < N) (ht : t + 1 < N) : adv N (adv N h t) 1 = adv N h (t + 1) := by unfold adv; split <;> split <;> split <;> omega
/-- find: where the search ends, and whether the key is there -/
theorem find_calls (bt bs N : Nat) (S : SRow) (cnt : Int) (k : Key) (w : World) (h : TabAt w bt bs N S cnt) (hk : k.length = 32) (hN : 2 ≤ N) (hN2 : N < 1099511627776) {f : Nat} (hfree : Free S f) :
    Calls Tryz.prog 111 #[.pointer (some ⟨bt, 0, none⟩), ofL (k.map bv)] w fun e w' => Fr (fun _ => False) w w' ∧ ∃ (t : Nat) (b : Bool), Slots.Ends (homeOf N) N S k t ∧ e = .returned (.tuple #[.int .i64 (adv N (homeOf N k) t : Nat), .bool b]) ∧ ((b = false ∧ Free S (adv N (homeOf N k) t)) ∨ (b = true ∧ ∃ v, At S (adv N (homeOf N k) t) k v)) := by
  refine (F111.of (some ⟨bt, 0, none⟩) (k.map bv) w (Q := fun v w' => Fr (fun _ => False) w w' ∧ ∃ (t : Nat) (b : Bool), Slots.Ends (homeOf N) N S k t ∧ v = .tuple #[.int .i64 (adv N (homeOf N k) t : Nat), .bool b] ∧ ((b = false ∧ Free S (adv N (homeOf N k) t)) ∨ (b = true ∧ ∃ v, At S (adv N (homeOf N k) t) k v))) ?_).mono (fun e w' ⟨v, he, hf, t, b, h1, hv, h2⟩ => ⟨hf, t, b, h1, by rw [he, hv], h2⟩)
  have hh := homeOf_lt (N := N) (by omega) k
  refine nw_mk ?_
  have f1 : Fr (fun _ => False) w (w.alloc (.cells (k.map bv).toArray 33)) := Fr.alloc _ _ _
  have hr : RecAt (w.alloc (.cells (k.map bv).toArray 33)) w.heap.size 33 (k.map bv) := RecAt.new w _ _
  have hs1 : w.heap.size < (w.alloc (.cells (k.map bv).toArray 33)).heap.size := by rw [alloc_size]; omega
  generalize w.alloc (.cells (k.map bv).toArray 33) = w1 at f1 hr hs1 ⊢
  refine ⟨k.map bv, by simp [hk], hr.cells (fun j v hj => by simpa using hj), (home_calls bt bs N S cnt k w1 (h.fr f1 (fun h => h) (fun h => h)) hk (by omega) hN2).mono ?_⟩
  rintro e w2 ⟨rfl, f2⟩
  have f12 := f1.trans1 f2
  have hr2 := hr.fr f2 (fun h => h)
  have hfl := hfree.lt (S := S) (by obtain ⟨_, _, _, ht⟩ := h; exact ht.tab.slen)
  refine ⟨_, rfl, jnC_mk ?_⟩
  refine loop_rule (fun s u => Fr (fun _ => False) w u ∧ RecAt u w.heap.size 33 (k.map bv) ∧ ∃ t : Nat, Slots.Ends (homeOf N) N S k t ∧ t ≤ dist N (homeOf N k) f ∧ s = (some ⟨bt, 0, none⟩, (w.heap.size, 0), ((adv N (homeOf N k) t : Nat) : Int), ()))
    (fun s _ => dist N (s.2.2.1).toNat f) ?_ _ _ ⟨f12, hr2, 0, ⟨by omega, fun t' h => by omega⟩, Nat.zero_le _, by
      have : adv N (homeOf N k) 0 = homeOf N k := by unfold adv; rw [if_pos (by omega), Nat.add_zero]
      rw [this]⟩
  rintro s u C ⟨hf, hru, t, hE, htf, rfl⟩ hC _
  obtain ⟨ty, ty', cs, ht⟩ := h.fr hf (fun h => h) (fun h => h)
  have hdl := dist_lt hh hfl
  have hil := adv_lt hh hE.lt
  generalize hi : adv N (homeOf N k) t = i at hil
  have hcs := ht.tab.full hil
  have hcell : ∃ b, cellAt u bs (0 + ((i : Int)).toNat * 71) = some (.bool b) ∧ ((b = true ∧ Full S i) ∨ (b = false ∧ Free S i)) := by
    rw [Int.toNat_natCast, Nat.zero_add]
    rcases hcs with ⟨h1, h2⟩ | ⟨h1, h2⟩
    · exact ⟨true, ht.sl.cell h2, .inl ⟨rfl, h1⟩⟩
    · exact ⟨false, ht.sl.cell h2, .inr ⟨rfl, h1⟩⟩
  obtain ⟨b, hb, hbb⟩ := hcell
  refine dr_mk ⟨_, _, _, ht.hd.cell rfl, dr_mk (gd_mk (decide_eq_true (Int.natCast_nonneg i)) (gd_mk (decide_eq_true (by show (i : Int) < (N : Int); omega)) ⟨b, hb, ?_⟩))⟩
  refine vIf_mk (fun hb0 => ?_) (fun hb1 => ?_)
  · have hb0 : b = false := by simpa using hb0
    rcases hbb with ⟨h1, _⟩ | ⟨_, h1⟩
    · rw [hb0] at h1; cases h1
    · exact ⟨hf, t, false, hE, by rw [hi], .inl ⟨rfl, by rw [hi]; exact h1⟩⟩
  · have hb1 : b = true := by simpa using hb1
    rcases hbb with ⟨_, h1⟩ | ⟨h1, _⟩
    · obtain ⟨k', v', hat⟩ := h1
      obtain ⟨hk', hkc, _, _⟩ := ht.tab.key hat
      refine ⟨k'.map bv, by simp [hk'], ht.sl.cells (o := 0 + i * 71 + 1) (fun j v hj => by rw [Nat.zero_add]; exact hkc j v hj), k.map bv, by simp [hk], hru.cells (fun j v hj => by simpa using hj), k', k, hk', hk, rfl, rfl, ?_⟩
      refine vIf_mk (fun he => ?_) (fun he => ?_)
      · have he : k' = k := by simpa using he
        subst he
        exact ⟨hf.trans1 (Fr.drew _ _), t, true, hE, by rw [hi], .inr ⟨rfl, v', by rw [hi]; exact hat⟩⟩
      · have he : k' ≠ k := by simpa using he
        have htne : t ≠ dist N (homeOf N k) f := by
          intro h1
          rw [h1, adv_dist hh hfl] at hi
          subst hi
          exact Full.not_free ⟨k', v', hat⟩ hfree
        refine dr_mk ⟨_, _, _, (show RecAt u.drew bt ty _ from ht.hd).cell rfl, gd_mk (decide_eq_true (by show (N : Int) ≠ 0; omega)) (jnC_mk (hC _ _ ⟨hf.trans1 (Fr.drew _ _), hru, t + 1, ⟨by omega, fun t' h1 => ?_⟩, by omega, ?_⟩ ?_))⟩
        · by_cases h2 : t' = t
          · subst h2; rw [hi]; exact ⟨k', v', hat, he⟩
          · exact hE.before t' (by omega)
        · show (_, (w.heap.size, 0), Int.tmod (IntKind.wrap .i64 ((i : Int) + 1)) (N : Int), ()) = _
          rw [tmod1 hN hN2 hil, ← hi, adv_adv hh (by omega)]
        · show dist N (Int.tmod (IntKind.wrap .i64 ((i : Int) + 1)) (N : Int)).toNat f < dist N (((adv N (homeOf N k) t : Nat) : Int)).toNat f
          rw [tmod1 hN hN2 hil, Int.toNat_natCast, Int.toNat_natCast, hi]
          have hif : i ≠ f := by
            intro h1; subst h1
            exact Full.not_free ⟨k', v', hat⟩ hfree
          unfold adv dist
          split <;> split <;> split <;> omega
    · rw [hb1] at h1; cases h1
end Go.Proofs.YthcclmlbkfadcaaGreat.Slo
/- a table of slots with entries: counting, Get. -/
namespace Go.Proofs.YthcclmlbkfadcaaGreat.Slo
open Go.GV Go.RowKit Go.Slots
set_option linter.unusedVariables false
/-! ### counting -/
def cntF (S : SRow) : Nat := (S.filter Option.isSome).length
theorem cntF_set : ∀ (S : SRow) (i : Nat) (o o' : Option (Key × List Value)), S[i]? = some o → cntF (S.set i o') + (if o.isSome then 1 else 0) = cntF S + (if o'.isSome then 1 else 0)
  | [], i, o, o', h => by simp at h
  | x :: r, 0, o, o', h => by
    simp only [List.getElem?_cons_zero, Option.some.injEq] at h
    subst h
    simp only [List.set_cons_zero, cntF, List.filter_cons]
    cases x <;> cases o' <;> simp
  | x :: r, i + 1, o, o', h => by
    have := cntF_set r i o o' (by simpa using h)
    simp only [List.set_cons_succ, cntF, List.filter_cons] at this ⊢
    cases x <;> simp at this ⊢ <;> omega
theorem cntF_free : ∀ (S : SRow), cntF S < S.length → ∃ f, Free S f
  | [], h => by simp [cntF] at h
  | none :: r, h => ⟨0, rfl⟩
  | some x :: r, h => by
    obtain ⟨f, hf⟩ := cntF_free r (by simp [cntF] at h ⊢; omega)
    exact ⟨f + 1, by unfold Free at hf ⊢; simpa using hf⟩
theorem cntF_none (n : Nat) : cntF (List.replicate n none) = 0 := by
  unfold cntF
  rw [List.filter_replicate]
  rfl
def Has (S : SRow) (k : Key) (v : List Value) : Prop := ∃ p, At S p k v
/-- one slot is written -/
theorem TabC.put {N : Nat} {S : SRow} {cs vs : List Value} {i : Nat} {o : Option (Key × List Value)} (h : TabC N S cs) (hi : i < N) (hl : vs.length = 71) (ho : SlotAt vs 0 o) (h1 : ∀ v ∈ vs, v.oneCell' = true) : TabC N (S.set i o) (splice cs (i * 71) vs) := by
  have hfit : i * 71 + vs.length ≤ cs.length := by rw [h.len, hl]; omega
  refine ⟨by rw [splice_len hfit]; exact h.len, by rw [List.length_set]; exact h.slen, fun j o' hj => ?_, fun v hv => ?_⟩
  rotate_left
  · unfold splice at hv
    simp only [List.mem_append] at hv
    rcases hv with (hv | hv) | hv
    · exact h.one v (List.mem_of_mem_take hv)
    · exact h1 v hv
    · exact h.one v (List.mem_of_mem_drop hv)
  have hjl := (List.getElem?_eq_some_iff.1 hj).1
  rw [List.length_set, h.slen] at hjl
  rw [set_at (by rw [h.slen]; exact hi)] at hj
  by_cases hij : i = j
  · subst hij
    rw [if_pos rfl] at hj
    injection hj with hj
    subst hj
    have get : ∀ q, q < 71 → (splice cs (i * 71) vs)[i * 71 + q]? = vs[q]? := fun q hq => by
      rw [splice_get hfit, if_neg (by omega), if_pos (by omega)]
      congr 1; omega
    cases o with
    | none =>
      have h0 : vs[0]? = some (.bool false) := by simpa [SlotAt] using ho
      show (splice cs (i * 71) vs)[i * 71]? = _
      have := get 0 (by omega)
      rw [Nat.add_zero] at this
      rw [this, h0]
    | some x =>
      obtain ⟨k, v⟩ := x
      obtain ⟨h1, h2⟩ := ho
      refine ⟨h1, fun q u hq => ?_⟩
      have hql : q < 71 := by
        have := (List.getElem?_eq_some_iff.1 hq).1
        simp [slotC, h1.1, h1.2] at this; omega
      rw [get q hql]
      have := h2 q u hq
      simpa using this
  · rw [if_neg hij] at hj
    have hold := h.slot j o' hj
    have get : ∀ q, q < 71 → (splice cs (i * 71) vs)[j * 71 + q]? = cs[j * 71 + q]? := fun q hq => by
      rw [splice_get hfit]
      by_cases h1 : j * 71 + q < i * 71
      · rw [if_pos h1]
      · rw [if_neg h1, if_neg (by rw [hl]; omega)]
    cases o' with
    | none =>
      have := get 0 (by omega)
      rw [Nat.add_zero] at this
      show (splice cs (i * 71) vs)[j * 71]? = _
      rw [this]; exact hold
    | some x =>
      obtain ⟨k, v⟩ := x
      obtain ⟨h1, h2⟩ := hold
      refine ⟨h1, fun q u hq => ?_⟩
      have hql : q < 71 := by
        have := (List.getElem?_eq_some_iff.1 hq).1
        simp [slotC, h1.1, h1.2] at this; omega
      rw [get q hql]
      exact h2 q u hq
theorem slotAt_C {k : Key} {v : List Value} (hk : k.length = 32) (hv : v.length = 38) : SlotAt (slotC k v) 0 (some (k, v)) := ⟨⟨hk, hv⟩, fun j u h => by simpa using h⟩
theorem slotC_len {k : Key} {v : List Value} (hk : k.length = 32) (hv : v.length = 38) : (slotC k v).length = 71 := by simp [slotC, hk, hv]
/-- the cells of a slot, cut out -/
theorem slotAt_cut {cs : List Value} {i : Nat} {o : Option (Key × List Value)} (h : SlotAt cs i o) : SlotAt ((cs.drop (i * 71)).take 71) 0 o := by
  have get : ∀ q, q < 71 → ((cs.drop (i * 71)).take 71)[q]? = cs[i * 71 + q]? := fun q hq => by rw [List.getElem?_take, if_pos hq, List.getElem?_drop]
  cases o with
  | none =>
    show ((cs.drop (i * 71)).take 71)[0 * 71]? = _
    rw [Nat.zero_mul, get 0 (by omega)]
    exact h
  | some x =>
    obtain ⟨k, v⟩ := x
    obtain ⟨h1, h2⟩ := h
    refine ⟨h1, fun q u hq => ?_⟩
    have hql : q < 71 := by
      have := (List.getElem?_eq_some_iff.1 hq).1
      simp [slotC, h1.1, h1.2] at this; omega
    rw [Nat.zero_mul, Nat.zero_add, get q hql]
    exact h2 q u hq
theorem cut_len {N : Nat} {S : SRow} {cs : List Value} (h : TabC N S cs) {i : Nat} (hi : i < N) : ((cs.drop (i * 71)).take 71).length = 71 := by
  rw [List.length_take, List.length_drop, h.len]; omega
theorem cut_cells {w : World} {b : Nat} {e : TypeId} {cs : List Value} (h : RecAt w b e cs) (o n : Nat) : cellsAt w b o ((cs.drop o).take n) := h.cells (fun j v hj => by
  rw [List.getElem?_take] at hj
  split at hj
  · rwa [List.getElem?_drop] at hj
  · cases hj)
theorem slotC_one {k : Key} {v : List Value} (hv : ∀ u ∈ v, u.oneCell' = true) : ∀ u ∈ slotC k v, u.oneCell' = true := by
  intro u hu
  simp only [slotC, List.mem_append, List.mem_singleton, List.not_mem_nil, or_false] at hu
  rcases hu with rfl | hu | hu
  · rfl
  · exact bvs_one k u hu
  · exact hv u hu
/-- a table as it should be; all its blocks are from B on -/
structure Tab (w : World) (B bt bs N : Nat) (S : SRow) : Prop where
  at_ : TabAt w bt bs N S (cntF S)
  inv : Inv (homeOf N) N S
  n8 : 8 ≤ N
  load : 4 * cntF S ≤ 3 * N
  big : N < 1099511627776
  bt_ : B ≤ bt
  bs_ : B ≤ bs
theorem Tab.free {w : World} {B bt bs N : Nat} {S : SRow} (h : Tab w B bt bs N S) : ∃ f, Free S f := by
  have hl := h.inv.len
  have := h.load
  have := h.n8
  exact cntF_free S (by omega)
theorem Tab.fr {D : Nat → Prop} {w w' : World} {B bt bs N : Nat} {S : SRow} (f : Fr D w w') (h : Tab w B bt bs N S) (hD : ∀ k, D k → k < B) : Tab w' B bt bs N S :=
  ⟨h.at_.fr f (fun hk => by have := hD _ hk; have := h.bt_; omega) (fun hk => by have := hD _ hk; have := h.bs_; omega), h.inv, h.n8, h.load, h.big, h.bt_, h.bs_⟩
/-- Get: the cells that the digest has -/
theorem get_calls (B bt bs N : Nat) (S : SRow) (k : Key) (w : World) (h : Tab w B bt bs N S) (hk : k.length = 32) :
    Calls Tryz.prog 84 #[.pointer (some ⟨bt, 0, none⟩), ofL (k.map bv)] w fun e w' => Fr (fun _ => False) w w' ∧ ((∃ cs, Has S k cs ∧ e = .returned (.tuple #[ofL cs, .bool true])) ∨ ((∀ v, ¬ Has S k v) ∧ e = .returned (.tuple #[ofL Z48, .bool false]))) := by
  refine (F84.of (some ⟨bt, 0, none⟩) (k.map bv) w (Q := fun v w' => Fr (fun _ => False) w w' ∧ ((∃ cs, Has S k cs ∧ v = .tuple #[ofL cs, .bool true]) ∨ ((∀ v, ¬ Has S k v) ∧ v = .tuple #[ofL Z48, .bool false]))) ?_).mono (fun e w' ⟨v, he, hf, hv⟩ => ⟨hf, by
    rcases hv with ⟨x, h1, h2⟩ | ⟨h1, h2⟩
    · exact .inl ⟨x, h1, by rw [he, h2]⟩
    · exact .inr ⟨h1, by rw [he, h2]⟩⟩)
  obtain ⟨f, hfree⟩ := h.free
  have zl : Z48.length = 38 := rfl
  have z1 : ∀ v ∈ Z48, v.oneCell' = true := by decide +kernel
  refine nw_mk (nw_mk (nw_mk (vIf_f rfl ?_)))
  have f1 : Fr (fun _ => False) w (w.alloc (.cells (k.map bv).toArray 33)) := Fr.alloc _ _ _
  have r1 : RecAt (w.alloc (.cells (k.map bv).toArray 33)) w.heap.size 33 (k.map bv) := RecAt.new w _ _
  have s1 : (w.alloc (.cells (k.map bv).toArray 33)).heap.size = w.heap.size + 1 := alloc_size _ _
  generalize w.alloc (.cells (k.map bv).toArray 33) = w1 at f1 r1 s1 ⊢
  have f2 : Fr (fun _ => False) w1 (w1.alloc (.cells Z48.toArray 48)) := Fr.alloc _ _ _
  have r2 : RecAt (w1.alloc (.cells Z48.toArray 48)) w1.heap.size 48 Z48 := RecAt.new w1 _ _
  have s2 : (w1.alloc (.cells Z48.toArray 48)).heap.size = w1.heap.size + 1 := alloc_size _ _
  have g2 := f1.trans1 f2
  have r1 := r1.fr f2 (fun h => h)
  generalize w1.alloc (.cells Z48.toArray 48) = w2 at g2 r1 r2 s2 ⊢
  have f3 : Fr (fun _ => False) w2 (w2.alloc (.cells Z48.toArray 48)) := Fr.alloc _ _ _
  have r3 : RecAt (w2.alloc (.cells Z48.toArray 48)) w2.heap.size 48 Z48 := RecAt.new w2 _ _
  have g3 := g2.trans1 f3
  have r1 := r1.fr f3 (fun h => h)
  have r2 := r2.fr f3 (fun h => h)
  have h1 := h.at_.fr g3 (fun h => h) (fun h => h)
  generalize w2.alloc (.cells Z48.toArray 48) = w3 at g3 r1 r2 r3 h1 ⊢
  refine ⟨k.map bv, by simp [hk], r1.cells (fun j v hj => by simpa using hj), (find_calls bt bs N S _ k _ h1 hk (by have := h.n8; omega) h.big hfree).mono ?_⟩
  rintro e w4 ⟨f4, t, b, hE, rfl, hb⟩
  have g4 := g3.trans1 f4
  have r2 := r2.fr f4 (fun h => h)
  have r3 := r3.fr f4 (fun h => h)
  obtain ⟨ty, ty', cs, ht⟩ := h1.fr f4 (fun h => h) (fun h => h)
  have hh := h.inv.hom k
  refine ⟨_, _, rfl, ?_⟩
  have fin : ∀ (vs : List Value) (b : Bool), vs.length = 38 → (∀ v ∈ vs, v.oneCell' = true) → ((∃ cs, Has S k cs ∧ Value.tuple #[ofL vs, .bool b] = .tuple #[ofL cs, .bool true]) ∨ ((∀ v, ¬ Has S k v) ∧ Value.tuple #[ofL vs, .bool b] = .tuple #[ofL Z48, .bool false])) →
      st w4 w1.heap.size 0 vs fun w26 => ldA 38 w26 w1.heap.size 0 fun a27 => Fr (fun _ => False) w w26 ∧ ((∃ cs, Has S k cs ∧ Value.tuple #[ofL a27, .bool b] = .tuple #[ofL cs, .bool true]) ∨ ((∀ v, ¬ Has S k v) ∧ Value.tuple #[ofL a27, .bool b] = .tuple #[ofL Z48, .bool false])) := by
    intro vs b hl h1 hq
    refine r2.st_mk (o := 0) (by rw [zl, hl]; omega) h1 (fun r f => ?_)
    rw [splice_full (by rw [hl, zl])] at r
    exact ⟨vs, hl, r.cells (fun j v hj => by simpa using hj), g4.trans f (fun _ _ h => h) (fun j hj h => by omega), hq⟩
  rcases hb with ⟨rfl, hf⟩ | ⟨rfl, v, hv⟩
  · exact vIf_t rfl ⟨_, zl, r3.cells (fun j v hj => by simpa using hj), gd_mk rfl (fin _ _ zl z1 (.inr ⟨fun v ⟨p, hp⟩ => hE.absent h.inv hf p v hp, rfl⟩))⟩
  · have hil := adv_lt hh hE.lt
    obtain ⟨_, _, ⟨hv38, h33⟩, _⟩ := ht.tab.key hv
    refine vIf_f rfl (dr_mk ⟨_, _, _, ht.hd.cell rfl, dr_mk (gd_mk (decide_eq_true (Int.natCast_nonneg _)) (gd_mk (decide_eq_true (by show ((adv N (homeOf N k) t : Nat) : Int) < (N : Int); omega)) ⟨v, hv38, ?_, gd_mk (by simp [hv38]) (fin v true hv38 (fun u hu => ?_) (.inl ⟨v, ⟨_, hv⟩, rfl⟩))⟩))⟩)
    · rw [Int.toNat_natCast, Nat.zero_add]
      exact ht.sl.cells h33
    · obtain ⟨j, hj⟩ := List.mem_iff_getElem?.1 hu
      exact ht.tab.one u (List.mem_of_getElem? (h33 j u hj))
end Go.Proofs.YthcclmlbkfadcaaGreat.Slo
/- a table of slots with entries: grow. -/
namespace Go.Proofs.YthcclmlbkfadcaaGreat.Slo
open Go.GV Go.RowKit Go.Slots
set_option linter.unusedVariables false
set_option linter.unusedSimpArgs false
theorem splice_all {c vs : List Value} (h : vs.length = c.length) : splice c 0 vs = vs := by
  unfold splice
  rw [List.take_zero, List.nil_append, Nat.zero_add, h, List.drop_length, List.append_nil]
theorem slot_one {cs : List Value} {i : Nat} {k : Key} {v : List Value} (h : SlotAt cs i (some (k, v))) (hl : cs.length = 71) (hi : i = 0) : cs = slotC k v := by
  subst hi
  obtain ⟨h1, h2⟩ := h
  apply List.ext_getElem?
  intro j
  by_cases hj : j < 71
  · have hs : (slotC k v)[j]? = some ((slotC k v)[j]'(by rw [slotC_len h1.1 h1.2]; exact hj)) := List.getElem?_eq_getElem _
    have := h2 j _ hs
    rw [hs, ← this]; congr 1; omega
  · rw [List.getElem?_eq_none (by omega), List.getElem?_eq_none (by rw [slotC_len h1.1 h1.2]; omega)]
theorem TabAt.set {w : World} {bt bs N : Nat} {S : SRow} {cnt : Int} (h : TabAt w bt bs N S cnt) {i : Nat} (hi : i < N) {o : Option (Key × List Value)} {vs : List Value} (hl : vs.length = 71) (ho : SlotAt vs 0 o) (h1 : ∀ v ∈ vs, v.oneCell' = true) {K : World → Prop}
    (hK : ∀ w', TabAt w' bt bs N (S.set i o) cnt → Fr (fun k => k = bs) w w' → K w') : st w bs (0 + i * 71) vs K := by
  obtain ⟨ty, ty', cs, ht⟩ := h
  rw [Nat.zero_add]
  refine ht.sl.st_mk (by rw [ht.tab.len, hl]; omega) h1 (fun r f => hK _ ⟨ty, ty', _, ht.hd.fr f ht.ne, r, ht.ne, ht.tab.put hi hl ho h1⟩ f)
theorem cntF_take (S : SRow) (j : Nat) (o : Option (Key × List Value)) (h : S[j]? = some o) : cntF (S.take (j + 1)) = cntF (S.take j) + (if o.isSome then 1 else 0) := by
  unfold cntF
  rw [List.take_add_one, h]
  simp only [Option.toList_some, List.filter_append, List.length_append]
  cases o <;> simp
theorem grow_calls (B bt bs N : Nat) (S : SRow) (cnt : Int) (w : World) (h : TabAt w bt bs N S cnt) (hI : Inv (homeOf N) N S) (hN : 8 ≤ N) (hN2 : N < 549755813888) (hB : B ≤ w.heap.size) :
    Calls Tryz.prog 112 #[.pointer (some ⟨bt, 0, none⟩)] w fun e w' => e = .returned (.tuple #[]) ∧ Fr (fun k => k = bt) w w' ∧ ∃ bs' S', TabAt w' bt bs' (2 * N) S' cnt ∧ Inv (homeOf (2 * N)) (2 * N) S' ∧ cntF S' = cntF S ∧ (∀ k v, Has S' k v ↔ Has S k v) ∧ B ≤ bs' := by
  refine (F112.of (some ⟨bt, 0, none⟩) w (Q := fun v w' => v = .tuple #[] ∧ Fr (fun k => k = bt) w w' ∧ ∃ bs' S', TabAt w' bt bs' (2 * N) S' cnt ∧ Inv (homeOf (2 * N)) (2 * N) S' ∧ cntF S' = cntF S ∧ (∀ k v, Has S' k v ↔ Has S k v) ∧ B ≤ bs') ?_).mono (fun e w' ⟨v, he, hv, h⟩ => ⟨by rw [he, hv], h⟩)
  obtain ⟨ty, ty', cs, ht⟩ := h
  have hSl := ht.tab.slen
  have w2 : IntKind.wrap .i64 (2 * (N : Int)) = ((2 * N : Nat) : Int) := by rw [i64_id (by omega) (by omega)]; omega
  refine dr_mk ⟨_, _, _, ht.hd.cell rfl, ?_⟩
  dsimp only
  rw [w2]
  refine gd_mk (decide_eq_true (by omega)) (gd_mk (decide_eq_true (by omega)) (gd_mk (decide_eq_true (by omega)) (nw_mk (dr_mk ?_))))
  rw [Int.toNat_natCast]
  have f1 : Fr (fun _ => False) w (w.alloc (.cells (zeros (2 * N) Z157).toArray 157)) := Fr.alloc _ _ _
  have hd1 := ht.hd.fr f1 (fun h => h)
  have sl1 := ht.sl.fr f1 (fun h => h)
  have nw1 : RecAt (w.alloc (.cells (zeros (2 * N) Z157).toArray 157)) w.heap.size 157 (zeros (2 * N) Z157) := RecAt.new w _ _
  have hbt := ht.hd.lt
  have hbs := ht.sl.lt
  have hs1 : w.heap.size < (w.alloc (.cells (zeros (2 * N) Z157).toArray 157)).heap.size := by rw [alloc_size]; omega
  generalize w.alloc (.cells (zeros (2 * N) Z157).toArray 157) = w1 at f1 hd1 sl1 nw1 hs1 ⊢
  generalize hbn : w.heap.size = bn at *
  refine hd1.st_mk (o := 0) (by simp) (by intro v hv; simp only [List.mem_singleton] at hv; subst hv; rfl) (fun hd2 f2 => ?_)
  have f12 : Fr (fun k => k = bt) w (stB w1 bt 0 [Value.slice (some ⟨bn, 0, none⟩) (2 * N) (2 * N)]) := f1.trans f2 (fun _ _ h => h.elim) (fun k _ h => h)
  have sl2 := sl1.fr f2 (fun h => ht.ne h.symm)
  have nw2 := nw1.fr f2 (fun h => by omega)
  have hs2 : bn < (stB w1 bt 0 [Value.slice (some ⟨bn, 0, none⟩) (2 * N) (2 * N)]).heap.size := by rw [stB_size]; exact hs1
  generalize stB w1 bt 0 [Value.slice (some ⟨bn, 0, none⟩) (2 * N) (2 * N)] = w2' at hd2 f12 sl2 nw2 hs2 ⊢
  have Zl : Z157.length = 71 := rfl
  have T0 : TabAt w2' bt bn (2 * N) (List.replicate (2 * N) none) cnt := by
    refine ⟨ty, 157, _, ?_, nw2, by omega, ⟨by rw [zeros_length, Zl], by simp, fun i o hi => ?_, fun v hv => ?_⟩⟩
    · exact hd2
    · have hil := (List.getElem?_eq_some_iff.1 hi).1
      rw [List.length_replicate] at hil
      have : o = none := by
        have := List.mem_of_getElem? hi
        exact (List.mem_replicate.1 this).2
      subst this
      show (zeros (2 * N) Z157)[i * 71]? = some (.bool false)
      have := zeros_get Z157 (2 * N) (i * 71) (by rw [Zl]; omega)
      rw [this, Zl, Nat.mul_mod_left]
      rfl
    · simp only [zeros, List.mem_flatten, List.mem_replicate] at hv
      obtain ⟨l, ⟨_, rfl⟩, hv⟩ := hv
      revert v
      decide +kernel
  have I0 : Inv (homeOf (2 * N)) (2 * N) (List.replicate (2 * N) (none : Option (Key × List Value))) := by
    have no : ∀ p k v, ¬ At (List.replicate (2 * N) (none : Option (Key × List Value))) p k v := fun p k v h => by
      have := List.mem_of_getElem? h
      have := (List.mem_replicate.1 this).2
      cases this
    exact ⟨by simp, fun k => homeOf_lt (by omega) k, fun p k v h => absurd h (no p k v), fun p q k v v' h => absurd h (no p k v)⟩
  have no0 : ∀ p k v, ¬ At (List.replicate (2 * N) (none : Option (Key × List Value))) p k v := fun p k v h => by
    have h1 := List.mem_of_getElem? h
    have h2 := (List.mem_replicate.1 h1).2
    cases h2
  refine jnC_mk ?_
  refine loop_rule (fun s u => Fr (fun k => k = bt) w u ∧ bn < u.heap.size ∧ RecAt u bs ty' cs ∧ ∃ (j : Nat) (S' : SRow), j ≤ N ∧ s = (some ⟨bt, 0, none⟩, (some ⟨bs, 0, none⟩, N, N), (N : Int), (j : Int), ()) ∧ TabAt u bt bn (2 * N) S' cnt ∧ Inv (homeOf (2 * N)) (2 * N) S' ∧ cntF S' = cntF (S.take j) ∧ ∀ k v, Has S' k v ↔ ∃ p, p < j ∧ At S p k v)
    (fun s _ => (N - s.2.2.2.1).toNat) ?_ _ _ ⟨f12, hs2, sl2, 0, _, by omega, rfl, T0, I0, by rw [cntF_none]; rfl, fun k v => Iff.intro (fun ⟨p, hp⟩ => absurd hp (no0 p k v)) (fun ⟨p, hp, _⟩ => absurd hp (Nat.not_lt_zero p))⟩
  rintro s u C ⟨hf, hus, hsl, j, S', hj, rfl, hT, hI', hcnt, hHas⟩ hC _
  have hub : B ≤ u.heap.size := by have := hf.size; omega
  refine vIf_mk (fun hlt => ?_) (fun hge => ?_)
  · have hlt2 : (j : Int) < (N : Int) := of_decide_eq_true hlt
    obtain ⟨o, ho⟩ : ∃ o, S[j]? = some o := ⟨_, List.getElem?_eq_getElem (by omega)⟩
    have hcl := cut_len ht.tab (i := j) (by omega)
    have hsc := slotAt_cut (ht.tab.slot j o ho)
    refine dr_mk (gd_mk (decide_eq_true (Int.natCast_nonneg j)) (gd_mk (decide_eq_true hlt2) ⟨(cs.drop (j * 71)).take 71, hcl, ?_, nw_mk (gd_mk (by simpa using hcl) ?_)⟩))
    · rw [Int.toNat_natCast, Nat.zero_add]; exact cut_cells hsl _ _
    generalize hvs : (cs.drop (j * 71)).take 71 = vs at hcl hsc ⊢
    have g1 : Fr (fun _ => False) u (u.alloc (.cells Z157.toArray 157)) := Fr.alloc _ _ _
    have rz : RecAt (u.alloc (.cells Z157.toArray 157)) u.heap.size 157 Z157 := RecAt.new u _ _
    have hone : ∀ x ∈ vs, x.oneCell' = true := by
      intro x hx
      have hx2 : x ∈ cs := by
        rw [← hvs] at hx
        exact List.mem_of_mem_drop (List.mem_of_mem_take hx)
      exact ht.tab.one x hx2
    refine rz.st_mk (o := 0) (by rw [Zl, hcl]; omega) hone (fun rv g2 => ?_)
    rw [splice_all (by rw [hcl, Zl])] at rv
    have g12 : Fr (fun _ => False) u (stB (u.alloc (.cells Z157.toArray 157)) u.heap.size 0 vs) := g1.trans g2 (fun _ _ h => h) (fun k hk h => by omega)
    have hs3 : u.heap.size < (stB (u.alloc (.cells Z157.toArray 157)) u.heap.size 0 vs).heap.size := by rw [stB_size, alloc_size]; omega
    generalize stB (u.alloc (.cells Z157.toArray 157)) u.heap.size 0 vs = u2 at rv g12 hs3 ⊢
    have hT2 := hT.fr g12 (fun h => h) (fun h => h)
    have hsl2 := hsl.fr g12 (fun h => h)
    have hf2 := hf.trans1 (g12.mono (fun _ _ h => h.elim))
    have next : ∀ (u3 : World) (S3 : SRow), Fr (fun k => k = bt) w u3 → bn < u3.heap.size → RecAt u3 bs ty' cs → TabAt u3 bt bn (2 * N) S3 cnt → Inv (homeOf (2 * N)) (2 * N) S3 → cntF S3 = cntF (S.take (j + 1)) → (∀ k v, Has S3 k v ↔ ∃ p, p < j + 1 ∧ At S p k v) →
        C (some ⟨bt, 0, none⟩, (some ⟨bs, 0, none⟩, N, N), (N : Int), IntKind.wrap .i64 ((j : Int) + 1), ()) u3 := fun u3 S3 a1 a2 a3 a4 a5 a6 a7 => by
      refine hC _ _ ⟨a1, a2, a3, j + 1, S3, by omega, ?_, a4, a5, a6, a7⟩ ?_
      · rw [i64_id (by omega) (by omega)]; rfl
      · show ((N : Int) - IntKind.wrap .i64 ((j : Int) + 1)).toNat < ((N : Int) - (j : Int)).toNat
        rw [i64_id (by omega) (by omega)]; omega
    cases o with
    | none =>
      have h0 : vs[0]? = some (.bool false) := by simpa [SlotAt] using hsc
      refine ⟨false, rv.cell h0, vIf_f rfl (jnC_mk (next u2 S' hf2 (by omega) hsl2 hT2 hI' ?_ (fun k v => ?_)))⟩
      · rw [cntF_take S j none ho, hcnt]; rfl
      · rw [hHas]
        refine ⟨fun ⟨p, h1, h2⟩ => ⟨p, by omega, h2⟩, fun ⟨p, h1, h2⟩ => ⟨p, ?_, h2⟩⟩
        by_cases hpj : p = j
        · subst hpj; unfold At at h2; rw [ho] at h2; cases h2
        · omega
    | some x =>
      obtain ⟨k, v⟩ := x
      have hat : At S j k v := ho
      obtain ⟨hk, hv38⟩ : k.length = 32 ∧ v.length = 38 := hsc.1
      have hve := slot_one hsc hcl rfl
      subst hve
      have hkc : ∀ q y, (k.map bv)[q]? = some y → (slotC k v)[0 + 1 + q]? = some y := fun q y hq => by
        have hql := (List.getElem?_eq_some_iff.1 hq).1
        unfold slotC
        rw [List.getElem?_append_right (by simp), List.getElem?_append_left (by simp at hql ⊢; omega)]
        simpa using hq
      obtain ⟨fr, hfr⟩ : ∃ f, Free S' f := cntF_free S' (by
        rw [hcnt, hI'.len]
        have : cntF (S.take j) ≤ (S.take j).length := List.length_filter_le _ _
        rw [List.length_take] at this
        omega)
      refine ⟨true, rv.cell rfl, vIf_t rfl ⟨k.map bv, by simp [hk], rv.cells (o := 0 + 1) hkc, ?_⟩⟩
      refine (find_calls bt bn (2 * N) S' cnt k u2 hT2 hk (by omega) (by omega) hfr).mono ?_
      rintro e u3 ⟨g3, t, b, hE, rfl, hb⟩
      rcases hb with ⟨rfl, hfree⟩ | ⟨_, v', hv'⟩
      · have hT3 := hT2.fr g3 (fun h => h) (fun h => h)
        have rv3 := rv.fr g3 (fun h => h)
        have hT3' := hT3
        obtain ⟨ty2, ty3, cs3, ht3⟩ := hT3'
        have hil := adv_lt (hI'.hom k) hE.lt
        refine ⟨_, _, rfl, dr_mk ⟨_, _, _, (show RecAt u3.drew bt ty2 _ from ht3.hd).cell rfl, slotC k v, slotC_len hk hv38, (show RecAt u3.drew u.heap.size 157 _ from rv3).cells (fun q y hq => by simpa using hq), ?_⟩⟩
        refine dr_mk (gd_mk (decide_eq_true (Int.natCast_nonneg _)) (gd_mk (decide_eq_true ?_) (gd_mk (by simp [slotC_len hk hv38]) ?_)))
        · show ((adv (2 * N) (homeOf (2 * N) k) t : Nat) : Int) < ((2 * N : Nat) : Int)
          omega
        rw [Int.toNat_natCast]
        refine TabAt.set (w := u3.drew) (S := S') (hT3.fr (Fr.drew (fun _ => False) u3) (fun h => h) (fun h => h)) hil (slotC_len hk hv38) (slotAt_C hk hv38) (fun x hx => hone x hx) (fun u4 hT4 g4 => ?_)
        have hbnB : B ≤ bn := by omega
        refine jnC_mk (next u4 _ ?_ ?_ ?_ hT4 (hE.put hI' v hfree) ?_ (fun k2 v2 => ?_))
        · exact ((hf2.trans1 (g3.mono (fun _ _ h => h.elim))).trans1 (Fr.drew _ _)).trans g4 (fun _ _ h => h) (fun q hq h => by omega)
        · have := g3.size; have := g4.size; show bn < _; have : u3.drew.heap.size = u3.heap.size := rfl; omega
        · have hsl3 : RecAt u3.drew bs ty' cs := RecAt.fr (S := fun _ => False) (g3.trans1 (Fr.drew _ _)) hsl2 (fun h => h)
          exact hsl3.fr g4 (fun h => by omega)
        · have h5 := cntF_set S' _ none (some (k, v)) hfree
          rw [cntF_take S j _ ho]
          simp at h5 ⊢
          omega
        · constructor
          · rintro ⟨p, hp⟩
            unfold At at hp
            rw [set_at (by rw [hI'.len]; exact hil)] at hp
            split at hp
            · injection hp with hp; injection hp with hp
              obtain ⟨rfl, rfl⟩ := Prod.mk.inj hp
              exact ⟨j, by omega, hat⟩
            · obtain ⟨q, h6, h7⟩ := (hHas k2 v2).1 ⟨p, hp⟩
              exact ⟨q, by omega, h7⟩
          · rintro ⟨p, h6, h7⟩
            by_cases hpj : p = j
            · subst hpj
              obtain ⟨rfl, rfl⟩ := hat.uniq h7
              exact ⟨_, by unfold At; rw [set_at (by rw [hI'.len]; exact hil), if_pos rfl]⟩
            · obtain ⟨q, hq⟩ := (hHas k2 v2).2 ⟨p, by omega, h7⟩
              refine ⟨q, ?_⟩
              unfold At
              rw [set_at (by rw [hI'.len]; exact hil), if_neg]
              · exact hq
              · intro he; subst he; exact Full.not_free ⟨k2, v2, hq⟩ hfree
      · exfalso
        obtain ⟨p, h6, h7⟩ := (hHas k v').1 ⟨_, hv'⟩
        have := hI.one _ _ _ _ _ h7 hat
        omega
  · have hge2 : ¬ ((j : Int) < (N : Int)) := of_decide_eq_false hge
    have hjN : j = N := by omega
    subst hjN
    rw [List.take_of_length_le (by omega)] at hcnt
    refine ⟨rfl, hf, bn, S', hT, hI', hcnt, fun k v => ?_, by omega⟩
    rw [hHas]
    exact ⟨fun ⟨p, _, hp⟩ => ⟨p, hp⟩, fun ⟨p, hp⟩ => ⟨p, hp.lt hI.len, hp⟩⟩
end Go.Proofs.YthcclmlbkfadcaaGreat.Slo
/- a table of slots with entries: Put. -/
namespace Go.Proofs.YthcclmlbkfadcaaGreat.Slo
open Go.GV Go.RowKit Go.Slots
set_option linter.unusedVariables false
set_option linter.unusedSimpArgs false
/-- the last step of Put: the slot is written -/
theorem put_slot {w : World} {bt bs N : Nat} {S : SRow} {cnt : Int} {b1 b3 : Nat} {k : Key} {x : List Value} {i : Nat} {Q : Value → World → Prop} (h : TabAt w bt bs N S cnt) (hr : RecAt w b1 33 (k.map bv)) (hr3 : RecAt w b3 48 x) (hk : k.length = 32) (hx : x.length = 38) (hx1 : ∀ u ∈ x, u.oneCell' = true) (hi : i < N)
    (hQ : ∀ w', TabAt w' bt bs N (S.set i (some (k, x))) cnt → Fr (fun j => j = bs) w w' → Q (.tuple #[]) w') : F79.k8 Q (some ⟨bt, 0, none⟩, (b1, 0), (b3, 0), (i : Int), ()) w := by
  intro _
  have hd : Fr (fun _ => False) w w.drew := Fr.drew _ _
  have hT := h.fr hd (fun h => h) (fun h => h)
  obtain ⟨ty, ty', cs, ht⟩ := id hT
  have hr' := hr.fr hd (fun h => h)
  have hr3' := hr3.fr hd (fun h => h)
  refine dr_mk ⟨_, _, _, ht.hd.cell rfl, k.map bv, by simp [hk], hr'.cells (o := 0) (fun j v hj => by rw [Nat.zero_add]; exact hj), x, hx, hr3'.cells (o := 0) (fun j v hj => by rw [Nat.zero_add]; exact hj), gd_mk (by simp [hk]) (gd_mk (by simp [hx]) (dr_mk (gd_mk (decide_eq_true (Int.natCast_nonneg i)) (gd_mk (decide_eq_true (by show (i : Int) < (N : Int); omega)) (gd_mk (by simp [hk, hx]) ?_)))))⟩
  rw [Int.toNat_natCast]
  exact TabAt.set (w := w.drew) (S := S) hT hi (slotC_len hk hx) (slotAt_C hk hx) (slotC_one hx1) (fun w' h1 f1 => hQ w' h1 ((Fr.drew _ _).trans1 f1))
theorem has_over {N : Nat} {S : SRow} {k : Key} {v0 v : List Value} {i : Nat} (hI : Inv (homeOf N) N S) (h : At S i k v0) : (∀ k' v', Has (S.set i (some (k, v))) k' v' ↔ if k' = k then v' = v else Has S k' v') ∧ cntF (S.set i (some (k, v))) = cntF S := by
  have hil : i < S.length := by rw [hI.len]; exact h.lt hI.len
  refine ⟨fun k' v' => ?_, ?_⟩
  · by_cases hk : k' = k
    · subst hk
      rw [if_pos rfl]
      constructor
      · rintro ⟨p, hp⟩
        unfold At at hp
        rw [set_at hil] at hp
        split at hp
        · injection hp with hp; injection hp with hp
          exact (Prod.mk.inj hp).2.symm
        · rename_i hne
          exact absurd (hI.one _ _ _ _ _ h hp) hne
      · rintro rfl
        exact ⟨i, by unfold At; rw [set_at hil, if_pos rfl]⟩
    · rw [if_neg hk]
      constructor
      · rintro ⟨p, hp⟩
        unfold At at hp
        rw [set_at hil] at hp
        split at hp
        · injection hp with hp; injection hp with hp
          exact absurd (Prod.mk.inj hp).1.symm hk
        · exact ⟨p, hp⟩
      · rintro ⟨p, hp⟩
        refine ⟨p, ?_⟩
        unfold At
        rw [set_at hil, if_neg]
        · exact hp
        · intro he; subst he; exact hk (h.uniq hp).1.symm
  · have := cntF_set S i _ (some (k, v)) h
    simp at this; omega
theorem has_new {N : Nat} {S : SRow} {k : Key} {v : List Value} {i : Nat} (hI : Inv (homeOf N) N S) (hf : Free S i) (hab : ∀ v, ¬ Has S k v) : (∀ k' v', Has (S.set i (some (k, v))) k' v' ↔ if k' = k then v' = v else Has S k' v') ∧ cntF (S.set i (some (k, v))) = cntF S + 1 := by
  have hil : i < S.length := by rw [hI.len]; exact hf.lt hI.len
  refine ⟨fun k' v' => ?_, ?_⟩
  · by_cases hk : k' = k
    · subst hk
      rw [if_pos rfl]
      constructor
      · rintro ⟨p, hp⟩
        unfold At at hp
        rw [set_at hil] at hp
        split at hp
        · injection hp with hp; injection hp with hp
          exact (Prod.mk.inj hp).2.symm
        · exact absurd ⟨p, hp⟩ (hab v')
      · rintro rfl
        exact ⟨i, by unfold At; rw [set_at hil, if_pos rfl]⟩
    · rw [if_neg hk]
      constructor
      · rintro ⟨p, hp⟩
        unfold At at hp
        rw [set_at hil] at hp
        split at hp
        · injection hp with hp; injection hp with hp
          exact absurd (Prod.mk.inj hp).1.symm hk
        · exact ⟨p, hp⟩
      · rintro ⟨p, hp⟩
        refine ⟨p, ?_⟩
        unfold At
        rw [set_at hil, if_neg]
        · exact hp
        · intro he; subst he; exact Full.not_free ⟨k', v', hp⟩ hf
  · have := cntF_set S i none (some (k, v)) hf
    simp at this; omega
/-- what a table is behind Put -/
structure PutAns (w' : World) (B bt : Nat) (S : SRow) (N : Nat) (k : Key) (v : List Value) (bs' N' : Nat) (S' : SRow) : Prop where
  tab : Tab w' B bt bs' N' S'
  has : ∀ k' v', Has S' k' v' ↔ if k' = k then v' = v else Has S k' v'
  cnt : ((∃ v0, Has S k v0) ∧ cntF S' = cntF S ∧ N' = N) ∨ ((∀ v0, ¬ Has S k v0) ∧ cntF S' = cntF S + 1 ∧ N' = if 4 * (cntF S + 1) > 3 * N then 2 * N else N)
theorem cnt_st {w : World} {bt bs N : Nat} {S : SRow} {cnt cnt' : Int} (h : TabAt w bt bs N S cnt) {K : World → Prop} (hK : ∀ w', TabAt w' bt bs N S cnt' → Fr (fun j => j = bt) w w' → K w') : st w bt (0 + 1) [.int .i64 cnt'] K := by
  obtain ⟨ty, ty', cs, ht⟩ := h
  refine ht.hd.st_mk (o := 0 + 1) (by simp) (by intro v hv; simp only [List.mem_singleton] at hv; subst hv; rfl) (fun r f => hK _ ⟨ty, ty', cs, r, ht.sl.fr f (fun h => ht.ne h.symm), ht.ne, ht.tab⟩ f)
theorem tput_calls' (B bt bs N : Nat) (S : SRow) (k : Key) (x : List Value) (w : World) (h : Tab w B bt bs N S) (hk : k.length = 32) (hx : x.length = 38) (hx1 : ∀ u ∈ x, u.oneCell' = true) (hN : N < 274877906944) (hB : B ≤ w.heap.size) :
    Calls Tryz.prog 79 #[.pointer (some ⟨bt, 0, none⟩), ofL (k.map bv), ofL x] w fun e w' => e = .returned (.tuple #[]) ∧ Fr (fun j => j = bt ∨ j = bs) w w' ∧ ∃ bs' N' S', (bs' = bs ∨ w.heap.size ≤ bs') ∧ PutAns w' B bt S N k x bs' N' S' := by
  refine (F79.of (some ⟨bt, 0, none⟩) (k.map bv) x w (Q := fun v w' => v = .tuple #[] ∧ Fr (fun j => j = bt ∨ j = bs) w w' ∧ ∃ bs' N' S', (bs' = bs ∨ w.heap.size ≤ bs') ∧ PutAns w' B bt S N k x bs' N' S') ?_).mono (fun e w' ⟨v, he, hv, h⟩ => ⟨by rw [he, hv], h⟩)
  obtain ⟨f, hfree⟩ := h.free
  have hN8 := h.n8
  refine nw_mk (nw_mk (vIf_f rfl ?_))
  have f0 : Fr (fun _ => False) w (w.alloc (.cells (k.map bv).toArray 33)) := Fr.alloc _ _ _
  have hr0 : RecAt (w.alloc (.cells (k.map bv).toArray 33)) w.heap.size 33 (k.map bv) := RecAt.new w _ _
  have hs0 : (w.alloc (.cells (k.map bv).toArray 33)).heap.size = w.heap.size + 1 := alloc_size _ _
  generalize w.alloc (.cells (k.map bv).toArray 33) = w0 at f0 hr0 hs0 ⊢
  have f1 : Fr (fun _ => False) w0 (w0.alloc (.cells x.toArray 48)) := Fr.alloc _ _ _
  have hr3 : RecAt (w0.alloc (.cells x.toArray 48)) w0.heap.size 48 x := RecAt.new w0 _ _
  have hr := hr0.fr f1 (fun h => h)
  have f1 := f0.trans1 f1
  have hs1 : (w0.alloc (.cells x.toArray 48)).heap.size = w0.heap.size + 1 := alloc_size _ _
  have hT1 := h.at_.fr f1 (fun h => h) (fun h => h)
  have hbt1 : bt < w.heap.size := by obtain ⟨_, _, _, ht⟩ := h.at_; exact ht.hd.lt
  have hbs1 : bs < w.heap.size := by obtain ⟨_, _, _, ht⟩ := h.at_; exact ht.sl.lt
  generalize w0.alloc (.cells x.toArray 48) = w1 at f1 hr hr3 hs1 hT1 ⊢
  have hb3 : w.heap.size < w0.heap.size := by omega
  generalize w0.heap.size = b3 at hr3 hs1 hb3 ⊢
  generalize hb1 : w.heap.size = b1 at hr hb3 hbt1 hbs1 ⊢
  refine ⟨k.map bv, by simp [hk], hr.cells (fun j v hj => by simpa using hj), (find_calls bt bs N S _ k _ hT1 hk (by omega) h.big hfree).mono ?_⟩
  rintro e w2 ⟨f2, t, b, hE, rfl, hb⟩
  have f12 : Fr (fun j => j = bt ∨ j = bs) w w2 := (f1.trans1 f2).mono (fun _ _ h => h.elim)
  have hT2 := hT1.fr f2 (fun h => h) (fun h => h)
  have hr2 := hr.fr f2 (fun h => h)
  have hr32 := hr3.fr f2 (fun h => h)
  have hs2 : b3 < w2.heap.size := by have := f2.size; omega
  have hil := adv_lt (h.inv.hom k) hE.lt
  refine ⟨_, _, rfl, ?_⟩
  rcases hb with ⟨rfl, hf⟩ | ⟨rfl, v0, hv0⟩
  · have hab : ∀ v, ¬ Has S k v := fun v ⟨p, hp⟩ => hE.absent h.inv hf p v hp
    have hd : Fr (fun _ => False) w2 w2.drew := Fr.drew _ _
    have hT3 := hT2.fr hd (fun h => h) (fun h => h)
    have hr3 := hr2.fr hd (fun h => h)
    have hr33 := hr32.fr hd (fun h => h)
    have f13 : Fr (fun j => j = bt ∨ j = bs) w w2.drew := f12.trans1 (Fr.drew _ _)
    obtain ⟨ty, ty', cs, ht⟩ := id hT3
    have hc := h.load
    have e1 : IntKind.wrap .i64 (((cntF S : Nat) : Int) + 1) = ((cntF S + 1 : Nat) : Int) := by rw [i64_id (by omega) (by omega)]; rfl
    have e2 : IntKind.wrap .i64 (4 * ((cntF S + 1 : Nat) : Int)) = ((4 * (cntF S + 1) : Nat) : Int) := by rw [i64_id (by omega) (by omega)]; omega
    have e3 : IntKind.wrap .i64 (3 * (N : Int)) = ((3 * N : Nat) : Int) := by rw [i64_id (by omega) (by omega)]; omega
    refine vIf_t rfl (dr_mk ⟨_, ht.hd.cell rfl, dr_mk ⟨_, _, _, ht.hd.cell rfl, ?_⟩⟩)
    dsimp only
    rw [e1, e2, e3]
    -- behind: the count goes up, the slot is written
    have fin : ∀ (w5 : World) (bs5 N5 : Nat) (S5 : SRow) (t5 : Nat), Fr (fun j => j = bt ∨ j = bs) w w5 → RecAt w5 b3 48 x → TabAt w5 bt bs5 N5 S5 (cntF S : Nat) → RecAt w5 b1 33 (k.map bv) → Inv (homeOf N5) N5 S5 → cntF S5 = cntF S → (∀ k v, Has S5 k v ↔ Has S k v) → (bs5 = bs ∨ b1 ≤ bs5) → 8 ≤ N5 → N5 < 1099511627776 →
        4 * (cntF S + 1) ≤ 3 * N5 → N5 = (if 4 * (cntF S + 1) > 3 * N then 2 * N else N) → Slots.Ends (homeOf N5) N5 S5 k t5 → Free S5 (adv N5 (homeOf N5 k) t5) →
        F79.k7 (fun v w' => v = .tuple #[] ∧ Fr (fun j => j = bt ∨ j = bs) w w' ∧ ∃ bs' N' S', (bs' = bs ∨ b1 ≤ bs') ∧ PutAns w' B bt S N k x bs' N' S') (some ⟨bt, 0, none⟩, (b1, 0), (b3, 0), ((adv N5 (homeOf N5 k) t5 : Nat) : Int), ()) w5 := by
      intro w5 bs5 N5 S5 t5 a1 a2 a3 a4 a5 a6 a7 a8 a9 a10 a11 a12 a13 a14 _
      obtain ⟨ty5, ty5', cs5, ht5⟩ := id a3
      have hBs5 : B ≤ bs5 := by
        rcases a8 with h8 | h8
        · rw [h8]; exact h.bs_
        · omega
      refine dr_mk ⟨_, ht5.hd.cell rfl, dr_mk ?_⟩
      rw [e1]
      refine cnt_st a3 (fun w6 h6 f6 => jnC_mk ?_)
      have hr6 := a4.fr f6 (fun he => by omega)
      have hr36 := a2.fr f6 (fun he => by omega)
      refine put_slot h6 hr6 hr36 hk hx hx1 (adv_lt (a5.hom k) a13.lt) (fun w7 h7 f7 => ⟨rfl, ?_, bs5, N5, S5.set (adv N5 (homeOf N5 k) t5) (some (k, x)), a8, ?_⟩)
      · exact (a1.trans1 (f6.mono (fun j _ hj => .inl hj))).trans f7 (fun _ _ h => h) (fun j hj h' => by
          rcases a8 with h8 | h8
          · exact .inr (h'.trans h8)
          · omega)
      · have hab5 : ∀ v, ¬ Has S5 k v := fun v hv => hab v ((a7 k v).1 hv)
        obtain ⟨g1, g2⟩ := has_new (v := x) a5 a14 hab5
        refine ⟨⟨?_, a13.put a5 _ a14, a9, by rw [g2, a6]; exact a11, a10, h.bt_, hBs5⟩, fun k' v' => ?_, .inr ⟨hab, by rw [g2, a6], a12⟩⟩
        · rw [g2, a6]; exact h7
        · rw [g1]
          split
          · exact Iff.rfl
          · exact a7 k' v'
    refine vIf_mk (fun hg => ?_) (fun hg => ?_)
    · have hg : ((4 * (cntF S + 1) : Nat) : Int) > ((3 * N : Nat) : Int) := of_decide_eq_true hg
      refine (grow_calls w2.drew.heap.size bt bs N S _ w2.drew hT3 h.inv hN8 (by omega) (Nat.le_refl _)).mono ?_
      rintro e w3 ⟨rfl, f3, bs', S', hT4, hI4, hc4, hh4, hb4⟩
      have hr4 : RecAt w3 b1 33 (k.map bv) := hr3.fr f3 (fun he => by omega)
      have hr34 : RecAt w3 b3 48 x := hr33.fr f3 (fun he => by omega)
      obtain ⟨f', hfree'⟩ : ∃ f, Free S' f := cntF_free S' (by rw [hc4, hI4.len]; omega)
      refine ⟨rfl, k.map bv, by simp [hk], hr4.cells (fun j v hj => by simpa using hj), (find_calls bt bs' (2 * N) S' _ k w3 hT4 hk (by omega) (by omega) hfree').mono ?_⟩
      rintro e w4 ⟨f4, t4, b4, hE4, rfl, hb4'⟩
      have f14 : Fr (fun j => j = bt ∨ j = bs) w w4 := (f13.trans1 (f3.mono (fun j _ hj => .inl hj))).trans1 (f4.mono (fun _ _ h => h.elim))
      rcases hb4' with ⟨rfl, hf4⟩ | ⟨_, v4, hv4⟩
      · exact ⟨_, _, rfl, jnC_mk (fin w4 bs' (2 * N) S' t4 f14 (hr34.fr f4 (fun h => h)) (hT4.fr f4 (fun h => h) (fun h => h)) (hr4.fr f4 (fun h => h)) hI4 hc4 hh4 (.inr (by have : w2.drew.heap.size = w2.heap.size := rfl; omega)) (by omega) (by omega) (by omega) (by rw [if_pos (by omega)]) hE4 hf4)⟩
      · exact absurd ((hh4 k v4).1 ⟨_, hv4⟩) (hab v4)
    · have hg : ¬ ((4 * (cntF S + 1) : Nat) : Int) > ((3 * N : Nat) : Int) := of_decide_eq_false hg
      exact jnC_mk (fin w2.drew bs N S t f13 hr33 hT3 hr3 h.inv rfl (fun _ _ => Iff.rfl) (.inl rfl) hN8 h.big (by omega) (by rw [if_neg (by omega)]) hE hf)
  · refine vIf_f rfl (jnC_mk (put_slot hT2 hr2 hr32 hk hx hx1 hil (fun w3 h3 f3 => ⟨rfl, f12.trans1 (f3.mono (fun j _ hj => .inr hj)), bs, N, S.set (adv N (homeOf N k) t) (some (k, x)), .inl rfl, ?_⟩)))
    obtain ⟨g1, g2⟩ := has_over (v := x) h.inv hv0
    refine ⟨⟨by rw [g2]; exact h3, h.inv.over _ hv0, hN8, by rw [g2]; exact h.load, h.big, h.bt_, h.bs_⟩, g1, .inl ⟨⟨v0, _, hv0⟩, g2, rfl⟩⟩
end Go.Proofs.YthcclmlbkfadcaaGreat.Slo
/- a table of slots with entries: Cut. -/
namespace Go.Proofs.YthcclmlbkfadcaaGreat.Slo
open Go.GV Go.RowKit Go.Slots
set_option linter.unusedVariables false
set_option linter.unusedSimpArgs false
end Go.Proofs.YthcclmlbkfadcaaGreat.Slo
/- digest: the order of two -/
namespace Go.Proofs.YthcclmlbkfadcaaGreat.Dg
open Go.GV Go.RowKit
set_option linter.unusedVariables false
set_option linter.unusedSimpArgs false
theorem eqAB_bytes {n : Nat} {a b : List UInt8} {K : Bool → Prop} (ha : a.length = n) (hb : b.length = n) (hK : K (a == b)) : eqAB n (a.map bv) (b.map bv) K := ⟨a, b, ha, hb, rfl, rfl, hK⟩
end Go.Proofs.YthcclmlbkfadcaaGreat.Dg
/- the document's order of digests -/
namespace Go.Proofs.YthcclmlbkfadcaaGreat.Dg
open Go.GV Go.RowKit Go.Lib
set_option linter.unusedVariables false
set_option linter.unusedSimpArgs false
end Go.Proofs.YthcclmlbkfadcaaGreat.Dg
/- rows of digests: how they lie; a row that rises -/
namespace Go.Proofs.YthcclmlbkfadcaaGreat.Dg
open Go.GV Go.RowKit Go.Lib
set_option linter.unusedVariables false
set_option linter.unusedSimpArgs false
abbrev Dig := List UInt8
def dcs (r : List Dig) : List Value := (r.map (fun d => d.map bv)).flatten
def W32 (r : List Dig) : Prop := ∀ d ∈ r, d.length = 32
theorem W32.at {r : List Dig} (h : W32 r) {i : Nat} {d : Dig} (hi : r[i]? = some d) : d.length = 32 := h d (List.mem_of_getElem? hi)
theorem dcs_flat {r : List Dig} (h : W32 r) : (dcs r).length = r.length * 32 ∧ ∀ (i : Nat) (d : Dig) (j : Nat), r[i]? = some d → j < 32 → (dcs r)[i * 32 + j]? = (d.map bv)[j]? := by
  obtain ⟨h1, h2⟩ := flatten_get (vss := r.map (fun d => d.map bv)) (k := 32) (fun i v hv => by
    rw [List.getElem?_map] at hv
    cases hr : r[i]? with
    | none => rw [hr] at hv; cases hv
    | some d => rw [hr] at hv; injection hv with hv; subst hv; rw [List.length_map]; exact h.at hr)
  refine ⟨by unfold dcs; rw [h1, List.length_map], fun i d j hi hj => ?_⟩
  exact h2 i _ j (by rw [List.getElem?_map, hi]; rfl) hj
theorem dcs_len {r : List Dig} (h : W32 r) : (dcs r).length = r.length * 32 := (dcs_flat h).1
theorem dcs_at {r : List Dig} (h : W32 r) {i : Nat} {d : Dig} (hi : r[i]? = some d) (j : Nat) (v : Value) (hv : (d.map bv)[j]? = some v) : (dcs r)[i * 32 + j]? = some v := by
  have hj := (List.getElem?_eq_some_iff.1 hv).1
  rw [List.length_map, h.at hi] at hj
  rw [(dcs_flat h).2 i d j hi hj]; exact hv
theorem dcs_append (a b : List Dig) : dcs (a ++ b) = dcs a ++ dcs b := by simp [dcs]
theorem dcs_one (d : Dig) : dcs [d] = d.map bv := by simp [dcs]
theorem dcs_oneCell (r : List Dig) : ∀ v ∈ dcs r, v.oneCell' = true := by
  intro v hv
  simp only [dcs, List.mem_flatten, List.mem_map] at hv
  obtain ⟨l, ⟨d, _, rfl⟩, hv⟩ := hv
  exact bvs_one d v hv
theorem dcs_take {r : List Dig} (h : W32 r) (k : Nat) : dcs (r.take k) = (dcs r).take (k * 32) := by
  by_cases hk : k ≤ r.length
  · have e : dcs r = dcs (r.take k) ++ dcs (r.drop k) := by rw [← dcs_append, List.take_append_drop]
    have hl : (dcs (r.take k)).length = k * 32 := by rw [dcs_len (fun d hd => h d (List.mem_of_mem_take hd)), List.length_take]; congr 1; omega
    rw [e, List.take_append_of_le_length (by omega), List.take_of_length_le (l := dcs (r.take k)) (by omega)]
  · rw [List.take_of_length_le (by omega), List.take_of_length_le (by rw [dcs_len h]; omega)]
/-- an element of a slice of digests -/
theorem sl_dig {w : World} {A : Option Addr} {n : Nat} {r : List Dig} (hs : Sl w 32 A n (dcs r)) (hw : W32 r) {i : Nat} (hi : i < n) : ∃ b o, A = some ⟨b, o, none⟩ ∧ ∀ j d, r[j]? = some d → cellsAt w b (o + j * 32) (d.map bv) := by
  obtain ⟨b, o, hA, hc⟩ := hs.2 (by omega)
  refine ⟨b, o, hA, fun j d hj q v hq => ?_⟩
  rw [Nat.add_assoc]
  exact hc _ v (dcs_at hw hj q v hq)
theorem sl_len {w : World} {A : Option Addr} {n : Nat} {r : List Dig} (hs : Sl w 32 A n (dcs r)) (hw : W32 r) : r.length = n := by
  have := hs.1
  rw [dcs_len hw] at this
  omega
/-! ### rows that rise -/
def LeD (a b : Dig) : Prop := compareBytes a b ≤ 0
def LtD (a b : Dig) : Prop := compareBytes a b < 0
theorem LtD.trans {a b c : Dig} (h1 : LtD a b) (h2 : LtD b c) : LtD a c := by
  have h := cmp_trans a b c (by unfold LtD at h1; omega) (by unfold LtD at h2; omega)
  unfold LtD at *
  rcases cmp_range a c with h' | h' | h'
  · omega
  · have := (cmp_zero a c).1 h'
    subst this
    have := cmp_anti a b
    omega
  · omega
theorem LtD.irrefl {a : Dig} : ¬ LtD a a := by unfold LtD; rw [cmp_self]; omega
theorem LeD.lt {a b : Dig} (h : LeD a b) (hn : a ≠ b) : LtD a b := by
  unfold LeD LtD at *
  have : compareBytes a b ≠ 0 := fun h' => hn ((cmp_zero a b).1 h')
  omega
theorem LeD.trans {a b c : Dig} (h1 : LeD a b) (h2 : LeD b c) : LeD a c := cmp_trans a b c h1 h2
theorem LeD.refl (a : Dig) : LeD a a := by unfold LeD; rw [cmp_self]; omega
theorem leD_lt {a b c : Dig} (h1 : LeD a b) (h2 : LtD b c) : LtD a c := by
  by_cases h : a = b
  · subst h; exact h2
  · exact (h1.lt h).trans h2
def Asc (r : List Dig) : Prop := r.Pairwise LtD
/-- a row that rises is told by its members -/
theorem Asc.unique : ∀ {r s : List Dig}, Asc r → Asc s → (∀ d, d ∈ r ↔ d ∈ s) → r = s
  | [], [], _, _, _ => rfl
  | [], b :: s, _, _, h => by have := (h b).2 (List.mem_cons_self ..); cases this
  | a :: r, [], _, _, h => by have := (h a).1 (List.mem_cons_self ..); cases this
  | a :: r, b :: s, hr, hs, h => by
    obtain ⟨hr1, hr2⟩ := List.pairwise_cons.1 hr
    obtain ⟨hs1, hs2⟩ := List.pairwise_cons.1 hs
    have hab : a = b := by
      rcases List.mem_cons.1 ((h a).1 (List.mem_cons_self ..)) with e | h1
      · exact e
      · rcases List.mem_cons.1 ((h b).2 (List.mem_cons_self ..)) with e | h2
        · exact e.symm
        · exact absurd ((hs1 a h1).trans (hr1 b h2)) LtD.irrefl
    subst hab
    congr 1
    refine Asc.unique hr2 hs2 (fun d => ⟨fun hd => ?_, fun hd => ?_⟩)
    · rcases List.mem_cons.1 ((h d).1 (List.mem_cons_of_mem _ hd)) with e | h1
      · subst e; exact absurd (hr1 d hd) LtD.irrefl
      · exact h1
    · rcases List.mem_cons.1 ((h d).2 (List.mem_cons_of_mem _ hd)) with e | h1
      · subst e; exact absurd (hs1 d hd) LtD.irrefl
      · exact h1
/-- without neighbours that are one -/
def cpt (r : List Dig) : Nat → List Dig
  | 0 => []
  | n + 1 => cpt r n ++ (if n ≠ 0 ∧ r[n]? = r[n - 1]? then [] else r[n]?.toList)
theorem cpt_len (r : List Dig) : ∀ n, (cpt r n).length ≤ n
  | 0 => Nat.le_refl _
  | n + 1 => by
    have := cpt_len r n
    simp only [cpt, List.length_append]
    split
    · simp; omega
    · cases r[n]? <;> simp <;> omega
theorem cpt_mem (r : List Dig) : ∀ n d, d ∈ cpt r n ↔ d ∈ r.take n
  | 0, d => by simp [cpt]
  | n + 1, d => by
    have ih := cpt_mem r n d
    rw [cpt, List.take_add_one, List.mem_append, List.mem_append, ih]
    by_cases h : n ≠ 0 ∧ r[n]? = r[n - 1]?
    · rw [if_pos h]
      constructor
      · intro h'; exact h'.elim .inl (fun h => by cases h)
      · rintro (h' | h')
        · exact .inl h'
        · left
          rw [h.2] at h'
          cases hr : r[n - 1]? with
          | none => rw [hr] at h'; cases h'
          | some x =>
            rw [hr] at h'
            simp at h'
            subst h'
            exact List.mem_of_getElem? (i := n - 1) (by rw [List.getElem?_take, if_pos (by omega)]; exact hr)
    · rw [if_neg h]
theorem cpt_asc {r : List Dig} (h : r.Pairwise LeD) : ∀ n, n ≤ r.length → Asc (cpt r n)
  | 0, _ => List.Pairwise.nil
  | n + 1, hn => by
    have ih := cpt_asc h n (by omega)
    rw [cpt]
    by_cases hc : n ≠ 0 ∧ r[n]? = r[n - 1]?
    · rw [if_pos hc, List.append_nil]; exact ih
    · rw [if_neg hc, List.getElem?_eq_getElem (by omega)]
      refine List.pairwise_append.2 ⟨ih, by simp, fun a ha b hb => ?_⟩
      simp at hb
      subst hb
      have ha' := (cpt_mem r n a).1 ha
      obtain ⟨i, hi, hai⟩ := List.mem_iff_getElem.1 ha'
      rw [List.length_take] at hi
      rw [List.getElem_take] at hai
      have hn0 : n ≠ 0 := by omega
      have hprev : r[n - 1]'(by omega) ≠ r[n]'(by omega) := by
        intro he
        apply hc
        refine ⟨hn0, ?_⟩
        rw [List.getElem?_eq_getElem (by omega), List.getElem?_eq_getElem (by omega), he]
      have hp := List.pairwise_iff_getElem.1 h
      have h2 : LtD (r[n - 1]'(by omega)) (r[n]'(by omega)) := (hp (n - 1) n (by omega) (by omega) (by omega)).lt hprev
      subst hai
      by_cases hin : i = n - 1
      · subst hin; exact h2
      · exact leD_lt (hp i (n - 1) (by omega) (by omega) (by omega)) h2
theorem cpt_W32 {r : List Dig} (h : W32 r) (n : Nat) : W32 (cpt r n) := fun d hd => h d (List.mem_of_mem_take ((cpt_mem r n d).1 hd))
end Go.Proofs.YthcclmlbkfadcaaGreat.Dg
/- Laid by the shelf's tools (plain mode): slices.SortFunc at this program's digests lies as the shelf's does. -/
namespace Go.Proofs
open Go.Shelf
def Tryz.sortD_ren : Go.Shelf.Ren := ⟨fun | 6 => 141 | 15 => 153 | 14 => 154 | 28 => 167 | 29 => 168 | 20 => 169 | 21 => 170 | 22 => 171 | 23 => 172 | 24 => 173 | 25 => 174 | 26 => 175 | 27 => 176 | 46 => 183 | 47 => 179 | 48 => 180 | 49 => 184 | 50 => 185 | 57 => 187 | n => n, fun | 22 => 63 | 24 => 33 | 25 => 178 | 3 => 3 | 39 => 161 | 0 => 0 | 53 => 196 | 55 => 25 | 4 => 4 | 46 => 190 | 45 => 189 | 50 => 100 | 5 => 5 | 9 => 9 | 66 => 203 | 70 => 207 | 76 => 211 | 77 => 59 | n => n, fun | n => n⟩
theorem Tryz.sortD : Go.Proofs.SlLaysF0.n6 Tryz.prog Tryz.sortD_ren := {
  mixed := by kernel_rfl
  f6 := ⟨Tryz.f141.name, by decide, Tryz.func141.trans (congrArg some (by kernel_rfl))⟩
  f14 := ⟨Tryz.f154.name, by decide, Tryz.func154.trans (congrArg some (by kernel_rfl))⟩
  f15 := Tryz.func153.trans (congrArg some (by kernel_rfl))
  f20 := ⟨Tryz.f169.name, by decide, Tryz.func169.trans (congrArg some (by kernel_rfl))⟩
  f21 := ⟨Tryz.f170.name, by decide, Tryz.func170.trans (congrArg some (by kernel_rfl))⟩
  f22 := ⟨Tryz.f171.name, by decide, Tryz.func171.trans (congrArg some (by kernel_rfl))⟩
  f23 := ⟨Tryz.f172.name, by decide, Tryz.func172.trans (congrArg some (by kernel_rfl))⟩
  f24 := ⟨Tryz.f173.name, by decide, Tryz.func173.trans (congrArg some (by kernel_rfl))⟩
  f25 := ⟨Tryz.f174.name, by decide, Tryz.func174.trans (congrArg some (by kernel_rfl))⟩
  f26 := ⟨Tryz.f175.name, by decide, Tryz.func175.trans (congrArg some (by kernel_rfl))⟩
  f27 := ⟨Tryz.f176.name, by decide, Tryz.func176.trans (congrArg some (by kernel_rfl))⟩
  f28 := Tryz.func167.trans (congrArg some (by kernel_rfl))
  f29 := Tryz.func168.trans (congrArg some (by kernel_rfl))
  f46 := ⟨Tryz.f183.name, by decide, Tryz.func183.trans (congrArg some (by kernel_rfl))⟩
  f47 := Tryz.func179.trans (congrArg some (by kernel_rfl))
  f48 := Tryz.func180.trans (congrArg some (by kernel_rfl))
  f49 := ⟨Tryz.f184.name, by decide, Tryz.func184.trans (congrArg some (by kernel_rfl))⟩
  f50 := ⟨Tryz.f185.name, by decide, Tryz.func185.trans (congrArg some (by kernel_rfl))⟩
  f57 := ⟨Tryz.f187.name, by decide, Tryz.func187.trans (congrArg some (by kernel_rfl))⟩
  t0 := Tryz.underlying0
  a0 := Tryz.isAgg0
  z0 := Tryz.sizeOf0
  v0 := Tryz.zeroValue0
  t3 := Tryz.underlying3
  a3 := Tryz.isAgg3
  z3 := Tryz.sizeOf3
  v3 := Tryz.zeroValue3
  t4 := Tryz.underlying4
  a4 := Tryz.isAgg4
  z4 := Tryz.sizeOf4
  v4 := Tryz.zeroValue4
  t5 := Tryz.underlying5
  a5 := Tryz.isAgg5
  z5 := Tryz.sizeOf5
  v5 := Tryz.zeroValue5
  t9 := Tryz.underlying9
  a9 := Tryz.isAgg9
  z9 := Tryz.sizeOf9
  v9 := Tryz.zeroValue9
  t22 := Tryz.underlying63
  a22 := Tryz.isAgg63
  z22 := Tryz.sizeOf63
  v22 := Tryz.zeroValue63
  t25 := Tryz.underlying178
  a25 := Tryz.isAgg178
  z25 := Tryz.sizeOf178
  v25 := Tryz.zeroValue178
  t39 := Tryz.underlying161
  a39 := Tryz.isAgg161
  z39 := Tryz.sizeOf161
  v39 := Tryz.zeroValue161
  t45 := Tryz.underlying189
  a45 := Tryz.isAgg189
  z45 := Tryz.sizeOf189
  v45 := Tryz.zeroValue189
  t46 := Tryz.underlying190
  a46 := Tryz.isAgg190
  z46 := Tryz.sizeOf190
  v46 := Tryz.zeroValue190
  t50 := Tryz.underlying100
  a50 := Tryz.isAgg100
  z50 := Tryz.sizeOf100
  v50 := Tryz.zeroValue100
  t53 := Tryz.underlying196
  a53 := Tryz.isAgg196
  z53 := Tryz.sizeOf196
  v53 := Tryz.zeroValue196
  t55 := Tryz.underlying25
  a55 := Tryz.isAgg25
  z55 := Tryz.sizeOf25
  v55 := Tryz.zeroValue25
  t66 := Tryz.underlying203
  a66 := Tryz.isAgg203
  z66 := Tryz.sizeOf203
  v66 := Tryz.zeroValue203
  t70 := Tryz.underlying207
  a70 := Tryz.isAgg207
  z70 := Tryz.sizeOf207
  v70 := Tryz.zeroValue207
  t76 := Tryz.underlying211
  a76 := Tryz.isAgg211
  z76 := Tryz.sizeOf211
  v76 := Tryz.zeroValue211
  t77 := Tryz.underlying59
  a77 := Tryz.isAgg59
  z77 := Tryz.sizeOf59
  v77 := Tryz.zeroValue59 }
end Go.Proofs
/- rows of digests: Clone, the sort, Compact -/
namespace Go.Proofs.YthcclmlbkfadcaaGreat.Dg
open Go.GV Go.RowKit Go.Lib
set_option linter.unusedVariables false
set_option linter.unusedSimpArgs false
/-- writing cells of a row -/
theorem row_splice {w : World} {B : Nat} {e : TypeId} {sz : Nat} {A : Option Addr} {n c : Nat} {vs us : List Value} {o' : Nat} {K : World → Prop} (hr : Row w B e sz A n c vs) (hn : n ≠ 0) (hfit : o' + us.length ≤ n * sz) (h1 : ∀ v ∈ us, v.oneCell' = true)
    (hK : ∀ w', Row w' B e sz A n c (splice vs o' us) → Fr (fun k => blkOf A = some k) w w' → K w') : dr A fun b o => st w b (o + o') us K := by
  rcases hr.at_ with ⟨_, h0, _⟩ | ⟨b, cs, rfl, hB, hh, hs, ht⟩
  · exact absurd h0 hn
  · have hle := hr.le
    have hl := hr.len
    have hmul : n * sz ≤ c * sz := Nat.mul_le_mul_right _ hle
    show st w b (0 + o') us K
    rw [Nat.zero_add]
    have hfit2 : o' + us.length ≤ cs.toList.length := by simp; omega
    refine ⟨⟨cs, e, 0, 0, hh, by simpa using hfit2, .inl (Nat.zero_le _)⟩, h1, hK _ ⟨by rw [splice_length (by omega)]; exact hl, hle, .inr ⟨b, _, rfl, hB, stB_heap hh, ?_, ?_⟩⟩ (Fr.st (fun _ => rfl))⟩
    · simp only [List.size_toArray]; rw [splice_length hfit2]; simpa using hs
    · apply List.ext_getElem?
      intro j
      simp only [List.getElem?_take]
      by_cases hj : j < n * sz
      · rw [if_pos hj, splice_get hfit2, splice_get (by omega), ← ht]
        simp only [List.getElem?_take]
        by_cases h2 : j < o'
        · rw [if_pos h2, if_pos h2, if_pos hj]
        · rw [if_neg h2, if_neg h2]
          split
          · rfl
          · first | rfl | rw [if_pos hj]
      · rw [if_neg hj, List.getElem?_eq_none (by rw [splice_length (by omega)]; omega)]
theorem row_cut {w : World} {B : Nat} {e : TypeId} {sz : Nat} {A : Option Addr} {n c k : Nat} {vs : List Value} (hr : Row w B e sz A n c vs) (hk : k ≤ n) : Row w B e sz A k c (vs.take (k * sz)) := by
  have hl := hr.len
  have hle := hr.le
  have hmul : k * sz ≤ n * sz := Nat.mul_le_mul_right _ hk
  refine ⟨by rw [List.length_take]; omega, by omega, ?_⟩
  rcases hr.at_ with ⟨h1, h2, h3⟩ | ⟨b, cs, h1, h2, h3, h4, h5⟩
  · exact .inl ⟨h1, by omega, h3⟩
  · refine .inr ⟨b, cs, h1, h2, h3, h4, ?_⟩
    rw [← h5, List.take_take, Nat.min_eq_left hmul]
theorem clone_dig (A : Option Addr) (n c : Nat) (r : List Dig) (w : World) (h : Sl w 32 A n (dcs r)) (hw : W32 r) (hn : n ≤ 1099511627776) :
    Calls Tryz.prog 140 #[.slice A n c] w fun e w' => ∃ A' c', e = .returned (.slice A' n c') ∧ Fr (fun _ => False) w w' ∧ Row w' w.heap.size 33 32 A' n c' (dcs r) := by
  refine (F140.of A n c w (Q := fun v w' => ∃ A' c', v = .slice A' n c' ∧ Fr (fun _ => False) w w' ∧ Row w' w.heap.size 33 32 A' n c' (dcs r)) ?_).mono (fun e w' ⟨v, he, A', c', hv, h⟩ => ⟨A', c', by rw [he, hv], h⟩)
  have hl := sl_len h hw
  refine vIf_mk (fun h0 => ?_) (fun h0 => ?_)
  · have hA : A = none := by simpa using h0
    subst hA
    have hn0 : n = 0 := by
      by_cases hn0 : n = 0
      · exact hn0
      · obtain ⟨b, o, hA, _⟩ := h.2 hn0; cases hA
    subst hn0
    have : r = [] := List.length_eq_zero_iff.1 hl
    subst this
    exact ⟨none, 0, rfl, Fr.refl _ _, Row.nil _ _ _ _⟩
  · refine nw_mk ?_
    have f1 : Fr (fun _ => False) w (w.alloc (.cells ([] : List Value).toArray 33)) := Fr.alloc _ _ _
    have r1 : Row (w.alloc (.cells ([] : List Value).toArray 33)) w.heap.size 33 32 (some ⟨w.heap.size, 0, none⟩) 0 0 [] := Row.new (Nat.le_refl _) rfl
    have hs1 : (w.alloc (.cells ([] : List Value).toArray 33)).heap.size = w.heap.size + 1 := alloc_size _ _
    generalize w.alloc (.cells ([] : List Value).toArray 33) = w1 at f1 r1 hs1 ⊢
    refine app_row r1 (f1.sl h (fun _ _ _ h => h)).src (dcs_oneCell r) (by decide +kernel) (by omega) (by omega) (by omega) (fun A' c' w' hr' f' => ?_)
    rw [Nat.zero_add, List.nil_append] at hr'
    rw [Nat.zero_add]
    exact ⟨A', c', rfl, f1.trans f' (fun _ _ h => h) (fun k hk h' => by simp only [blkOf, Option.some.injEq] at h'; omega), hr'⟩
/-! ### the sort -/
abbrev D32 : Type := { l : Dig // l.length = 32 }
instance : Inhabited D32 := ⟨⟨List.replicate 32 0, by simp⟩⟩
def encD (x : D32) : List Value := x.1.map bv
def cfD (x y : D32) : Int := compareBytes x.1 y.1
open Go.Sort in
theorem swoD : SWO (ltOf cfD) where
  irrefl x := by unfold ltOf cfD; rw [cmp_self]; rfl
  trans x y z h1 h2 := by
    unfold ltOf cfD at *
    have h1 : LtD x.1 y.1 := of_decide_eq_true (p := compareBytes x.1 y.1 < 0) h1
    have h2 : LtD y.1 z.1 := of_decide_eq_true (p := compareBytes y.1 z.1 < 0) h2
    exact decide_eq_true (show compareBytes x.1 z.1 < 0 from h1.trans h2)
  ntrans x y z h1 h2 := by
    unfold ltOf cfD at *
    have h1 : ¬ compareBytes x.1 y.1 < 0 := of_decide_eq_false h1
    have h2 : ¬ compareBytes y.1 z.1 < 0 := of_decide_eq_false h2
    refine decide_eq_false (fun h3 => ?_)
    have h3 : compareBytes x.1 z.1 < 0 := h3
    have := cmp_anti x.1 y.1
    have := cmp_anti y.1 z.1
    have hzx : compareBytes z.1 x.1 ≤ 0 := cmp_trans z.1 y.1 x.1 (by omega) (by omega)
    have := cmp_anti x.1 z.1
    omega
open Go.Sort in
/-- Cmp, with the world it leaves to the cell -/
theorem cmp_world (a b : Dig) (w : World) (ha : a.length = 32) (hb : b.length = 32) :
    Calls Tryz.prog 142 #[ofL (a.map bv), ofL (b.map bv)] w fun e w' => e = .returned (.int .i64 (compareBytes a b)) ∧ ∃ q os, w' = grow (w.drewN q) os := by
  refine (F142.of (a.map bv) (b.map bv) w (Q := fun v w' => v = .int .i64 (compareBytes a b) ∧ ∃ q os, w' = grow (w.drewN q) os) ?_).mono (fun e w' ⟨v, he, hv, h⟩ => ⟨by rw [he, hv], h⟩)
  refine nw_mk (nw_mk ?_)
  have r1 : RecAt (w.alloc (.cells (a.map bv).toArray 33)) w.heap.size 33 (a.map bv) := RecAt.new w _ _
  have e1 : w.alloc (.cells (a.map bv).toArray 33) = grow w #[.cells (a.map bv).toArray 33] := rfl
  generalize hw1 : w.alloc (.cells (a.map bv).toArray 33) = w1 at r1 e1 ⊢
  have r2 : RecAt (w1.alloc (.cells (b.map bv).toArray 33)) w1.heap.size 33 (b.map bv) := RecAt.new w1 _ _
  have r12 := r1.fr (Fr.alloc (fun _ => False) w1 (.cells (b.map bv).toArray 33)) (fun h => h)
  have e2 : w1.alloc (.cells (b.map bv).toArray 33) = grow w #[.cells (a.map bv).toArray 33, .cells (b.map bv).toArray 33] := by rw [e1, alloc_eq_grow, grow_grow]; rfl
  generalize w1.alloc (.cells (b.map bv).toArray 33) = w2 at r2 r12 e2 ⊢
  have cell : ∀ {l : List UInt8} {u : World} {g : Nat} {ty : TypeId}, RecAt u g ty (l.map bv) → cellsAt u g 0 (l.map bv) := fun r => r.cells (o := 0) (fun q v hq => by simpa using hq)
  refine ⟨a.map bv, by simp [ha], cell r12, b.map bv, by simp [hb], cell r2, eqAB_bytes ha hb (vIf_mk (fun he => ?_) (fun hne => ?_))⟩
  · have he : a = b := by simpa using he
    subst he
    exact ⟨by rw [cmp_self], 0, _, by rw [e2]; rfl⟩
  · have s1 : Sl w2.drew 1 (some ⟨w.heap.size, 0, none⟩) 32 (a.map bv) := ⟨by simp [ha], fun _ => ⟨_, 0, rfl, cell (show RecAt w2.drew _ _ _ from r12)⟩⟩
    have s2 : Sl w2.drew 1 (some ⟨w1.heap.size, 0, none⟩) 32 (b.map bv) := ⟨by simp [hb], fun _ => ⟨_, 0, rfl, cell (show RecAt w2.drew _ _ _ from r2)⟩⟩
    refine (F155.of _ 32 32 _ 32 32 w2.drew (Q := fun v w' => v = .int .i64 (compareBytes a b) ∧ w' = w2.drew) (compare_ext Tryz.func177 (by kernel_rfl) (by kernel_rfl) (by kernel_rfl) s1 s2 ⟨_, rfl, rfl, rfl⟩)).mono ?_
    rintro e w3 ⟨v, rfl, rfl, rfl⟩
    exact ⟨_, rfl, rfl, 1, #[.cells (a.map bv).toArray 33, .cells (b.map bv).toArray 33], by rw [e2]; rfl⟩
theorem flatK_dcs (d : Array D32) : (Go.Sort.flatK encD 32 d).toList = dcs (d.toList.map (·.1)) := by
  have hw : W32 (d.toList.map (·.1)) := by
    intro x hx
    obtain ⟨y, _, rfl⟩ := List.mem_map.1 hx
    exact y.2
  apply List.ext_getElem?
  intro t
  by_cases ht : t < d.size * 32
  · have h1 := Go.Sort.get_flatK encD 32 d t ht
    have hi : t / 32 < d.size := by omega
    have h2 : d[t / 32]! = d[t / 32]'hi := getElem!_pos d (t / 32) hi
    have hlen : (encD (d[t / 32]'hi)).length = 32 := by unfold encD; rw [List.length_map]; exact (d[t / 32]'hi).2
    have h3 : (encD (d[t / 32]'hi))[t % 32]! = (encD (d[t / 32]'hi))[t % 32]'(by omega) := getElem!_pos (encD (d[t / 32]'hi)) (t % 32) (by omega)
    have hs : t < (Go.Sort.flatK encD 32 d).size := by rw [Go.Sort.size_flatK]; exact ht
    have h4 : (Go.Sort.flatK encD 32 d)[t]! = (Go.Sort.flatK encD 32 d)[t]'hs := getElem!_pos (Go.Sort.flatK encD 32 d) t hs
    have h5 := (dcs_flat hw).2 (t / 32) (d[t / 32]'hi).1 (t % 32) (by rw [List.getElem?_map, Array.getElem?_toList, Array.getElem?_eq_getElem hi]; rfl) (by omega)
    rw [show t / 32 * 32 + t % 32 = t by omega] at h5
    rw [h5, Array.getElem?_toList, Array.getElem?_eq_getElem hs, ← h4, h1, h2, h3, ← List.getElem?_eq_getElem]
    rfl
  · rw [List.getElem?_eq_none (by rw [Array.length_toList, Go.Sort.size_flatK]; omega), List.getElem?_eq_none (by rw [dcs_len hw]; simp; omega)]
open Go.Sort in
theorem sort_dig (B : Nat) (e : TypeId) (b c : Nat) (r : List Dig) (n : Nat) (w : World) (h : Row w B e 32 (some ⟨b, 0, none⟩) n c (dcs r)) (hw : W32 r) (hn : n < 4611686018427387904) :
    Calls Tryz.prog 141 #[.slice (some ⟨b, 0, none⟩) n c, .func (.func 142) #[] #[]] w fun e' w' => e' = .returned (.tuple #[]) ∧ Fr (fun k => k = b) w w' ∧ ∃ r', W32 r' ∧ Row w' B e 32 (some ⟨b, 0, none⟩) n c (dcs r') ∧ r'.Perm r ∧ r'.Pairwise LeD := by
  have hrl := sl_len h.sl hw
  obtain ⟨d, hd⟩ : ∃ d : Array D32, d.toList.map (·.1) = r := by
    refine ⟨(r.attach.map fun x => (⟨x.1, hw x.1 x.2⟩ : D32)).toArray, ?_⟩
    show List.map (fun x : D32 => x.1) (List.map (fun x : { x // x ∈ r } => (⟨x.1, hw x.1 x.2⟩ : D32)) r.attach) = r
    rw [List.map_map]
    exact List.attach_map_subtype_val r
  have hds : d.size = n := by
    rw [← hrl, ← hd, List.length_map, Array.length_toList]
  have hcs := flatK_dcs d
  rw [hd] at hcs
  rcases h.at_ with ⟨h', _⟩ | ⟨b', cs, hA, hB, hh, hs, ht⟩
  · cases h'
  injection hA with hA
  injection hA with hA
  subst hA
  have hH : HoldsK encD 32 w b 0 d := by
    intro j hj
    rw [size_flatK] at hj
    have hjl : j < (dcs r).length := by rw [dcs_len hw, hrl, ← hds]; exact hj
    have hsz : j < (flatK encD 32 d).size := by rw [size_flatK]; exact hj
    have e1 : (flatK encD 32 d)[j]! = (dcs r)[j]'hjl := by
      rw [getElem!_pos (flatK encD 32 d) j hsz]
      have : (flatK encD 32 d).toList[j]? = (dcs r)[j]? := by rw [hcs]
      rw [Array.getElem?_toList, Array.getElem?_eq_getElem hsz, List.getElem?_eq_getElem hjl] at this
      exact Option.some.inj this
    rw [e1]
    constructor
    · have := cellsAt_take hh ht j _ (List.getElem?_eq_getElem hjl)
      exact this
    · simp [World.frozen?, hh]
  have eg : ∀ args w, (callFunc 142 args).run Tryz.prog w = .ok (.enter 142 args) w := enters_of Tryz.func142 (by kernel_rfl) rfl
  have hcmp : CmpLays Tryz.prog 142 #[] encD 32 cfD b 0 d.size w := fun m os dk _ x y => cmp_world x.1 y.1 _ x.2 y.2
  have hcon := AnyQ.slices_SortFunc Tryz.sortD 32 Tryz.isAgg33 Tryz.sizeOf33 encD (fun x => by unfold encD; rw [List.length_map]; exact x.2) (fun x v hv => bvs_one x.1 v hv) cfD swoD 142 #[] b 0 c d w eg hcmp hH (heap_lt hh) (by omega)
  rw [hds] at hcon
  refine Calls.mono hcon ?_
  rintro e' w' ⟨rfl, d', q, os, hp, hsd, rfl⟩
  obtain ⟨hp1, _, hp3⟩ := hp
  have hds' : d'.size = n := by omega
  have hperm : d'.toList.Perm d.toList := by
    have e1 : d'.extract 0 n = d' := by rw [← hds']; simp
    have e2 : d.extract 0 n = d := by rw [← hds]; simp
    rw [e1, e2] at hp3
    exact hp3
  have hw' : W32 (d'.toList.map (·.1)) := by
    intro x hx
    obtain ⟨y, _, rfl⟩ := List.mem_map.1 hx
    exact y.2
  have hfl : (flatK encD 32 d').toList = dcs (d'.toList.map (·.1)) := flatK_dcs d'
  have hlen' : (d'.toList.map (·.1)).length = n := by rw [List.length_map, Array.length_toList, hds']
  have hfsz : (flatK encD 32 d').size = n * 32 := by rw [size_flatK, hds']
  have hle := h.le
  -- the heap behind
  have heap : ∀ k, k < w.heap.size → (sortWorldK encD 32 w b 0 q d' os).heap[k]? = if k = b then some (.cells (putCells id 0 (flatK encD 32 d') cs) e) else w.heap[k]? := by
    intro k hk
    show ((putRow id (Go.Sort.ahead w q) b 0 (flatK encD 32 d')).heap ++ os)[k]? = _
    have hsz : k < (putRow id (Go.Sort.ahead w q) b 0 (flatK encD 32 d')).heap.size := by
      show k < ((Go.Sort.ahead w q).heap.modify b _).size
      rw [Array.size_modify]; exact hk
    rw [Array.getElem?_append_left hsz]
    show ((Go.Sort.ahead w q).heap.modify b (onCells (putCells id 0 (flatK encD 32 d'))))[k]? = _
    rw [Array.getElem?_modify]
    by_cases hkb : k = b
    · subst hkb
      rw [if_pos rfl, if_pos rfl]
      show Option.map _ w.heap[k]? = _
      rw [hh]; rfl
    · rw [if_neg (fun h => hkb h.symm), if_neg hkb]; rfl
  refine ⟨rfl, ⟨rfl, rfl, rfl, ?_, fun k hk hn' => ?_⟩, d'.toList.map (·.1), hw', ⟨?_, hle, .inr ⟨b, putCells id 0 (flatK encD 32 d') cs, rfl, hB, ?_, ?_, ?_⟩⟩, ?_, ?_⟩
  · show w.heap.size ≤ ((putRow id (Go.Sort.ahead w q) b 0 (flatK encD 32 d')).heap ++ os).size
    have : (putRow id (Go.Sort.ahead w q) b 0 (flatK encD 32 d')).heap.size = w.heap.size := by
      show ((Go.Sort.ahead w q).heap.modify b _).size = _
      rw [Array.size_modify]; rfl
    rw [Array.size_append]; omega
  · rw [heap k hk, if_neg hn']
  · rw [dcs_len hw', hlen']
  · rw [heap b (heap_lt hh), if_pos rfl]
  · simp [putCells, hs]
  · apply List.ext_getElem?
    intro j
    have hcsz : n * 32 ≤ cs.size := by rw [hs]; exact Nat.mul_le_mul_right _ hle
    by_cases hj : j < n * 32
    · rw [List.getElem?_take, if_pos hj, ← hfl, Array.getElem?_toList, Array.getElem?_toList]
      unfold putCells
      rw [Array.getElem?_mapIdx, Array.getElem?_eq_getElem (show j < cs.size by omega), Option.map_some, if_pos ⟨Nat.zero_le _, by omega⟩]
      show some ((flatK encD 32 d')[j - 0]!) = _
      rw [Nat.sub_zero, getElem!_pos (flatK encD 32 d') j (by omega), Array.getElem?_eq_getElem (by omega)]
    · rw [List.getElem?_take, if_neg hj, List.getElem?_eq_none (by rw [dcs_len hw', hlen']; omega)]
  · rw [← hd]; exact hperm.map _
  · rw [List.pairwise_map]
    refine List.pairwise_iff_getElem.2 (fun i j hi hj hij => ?_)
    have := hsd i j (Nat.zero_le _) hij (by rw [Array.length_toList] at hj; omega)
    unfold ltOf cfD at this
    have h3 := of_decide_eq_false this
    rw [Array.length_toList] at hi hj
    rw [getElem!_pos d' j (by omega), getElem!_pos d' i (by omega)] at h3
    show compareBytes _ _ ≤ 0
    have := cmp_anti (d'[j]'(by omega)).1 (d'[i]'(by omega)).1
    simp only [Array.getElem_toList]
    omega
end Go.Proofs.YthcclmlbkfadcaaGreat.Dg
/- rows of digests: Compact, Row, Has -/
namespace Go.Proofs.YthcclmlbkfadcaaGreat.Dg
open Go.GV Go.RowKit Go.Lib
set_option linter.unusedVariables false
set_option linter.unusedSimpArgs false
theorem dcs_set {P : List Dig} {k : Nat} {d : Dig} (h : W32 P) (hd : d.length = 32) (hk : k < P.length) : dcs (P.set k d) = splice (dcs P) (k * 32) (d.map bv) := by
  have h' : W32 (P.set k d) := by
    intro x hx
    rcases List.mem_or_eq_of_mem_set hx with h1 | h1
    · exact h x h1
    · subst h1; exact hd
  have hl := dcs_len h
  have hl' := dcs_len h'
  rw [List.length_set] at hl'
  have hfit : k * 32 + (d.map bv).length ≤ (dcs P).length := by rw [hl, List.length_map, hd]; omega
  apply List.ext_getElem?
  intro t
  rw [splice_get hfit]
  by_cases ht : t < P.length * 32
  · have e : t / 32 * 32 + t % 32 = t := by omega
    have hi : t / 32 < P.length := by omega
    by_cases hkt : k = t / 32
    · have h1 := (dcs_flat h').2 (t / 32) d (t % 32) (by rw [hkt, List.getElem?_set_self hi]) (by omega)
      rw [e] at h1
      rw [h1, if_neg (by omega), if_pos (by rw [List.length_map, hd]; omega)]
      congr 1; omega
    · have h1 := (dcs_flat h').2 (t / 32) (P[t / 32]'hi) (t % 32) (by rw [List.getElem?_set_ne hkt, List.getElem?_eq_getElem hi]) (by omega)
      have h2 := (dcs_flat h).2 (t / 32) (P[t / 32]'hi) (t % 32) (List.getElem?_eq_getElem hi) (by omega)
      rw [e] at h1 h2
      rw [h1, ← h2, List.length_map, hd]
      by_cases h3 : t < k * 32
      · rw [if_pos h3]
      · rw [if_neg h3, if_neg (by omega)]
  · rw [List.getElem?_eq_none (by omega), List.length_map, hd, if_neg (by omega), if_neg (by omega), List.getElem?_eq_none (by omega)]
theorem eqAB_dig {a b : Dig} {K : Bool → Prop} (ha : a.length = 32) (hb : b.length = 32) (hK : K (a == b)) : eqAB 32 (a.map bv) (b.map bv) K := eqAB_bytes ha hb hK
set_option maxHeartbeats 1000000 in
theorem compact_dig (B : Nat) (e : TypeId) (A : Option Addr) (c : Nat) (r : List Dig) (n : Nat) (w : World) (h : Row w B e 32 A n c (dcs r)) (hw : W32 r) (hn : n ≤ 1099511627776) :
    Calls Tryz.prog 143 #[.slice A n c] w fun e' w' => e' = .returned (.slice A (cpt r n).length c) ∧ Fr (fun k => blkOf A = some k) w w' ∧ Row w' B e 32 A (cpt r n).length c (dcs (cpt r n)) := by
  refine (F143.of A n c w (Q := fun v w' => v = .slice A (cpt r n).length c ∧ Fr (fun k => blkOf A = some k) w w' ∧ Row w' B e 32 A (cpt r n).length c (dcs (cpt r n))) ?_).mono (fun e w' ⟨v, he, hv, h⟩ => ⟨by rw [he, hv], h⟩)
  have hrl := sl_len h.sl hw
  have whole : ∀ i, i ≤ n → cpt r i = r.take i → i = n → ∀ u, Fr (fun k => blkOf A = some k) w u → Row u B e 32 A n c (dcs r) → (Value.slice A n c = .slice A (cpt r n).length c ∧ Fr (fun k => blkOf A = some k) w u ∧ Row u B e 32 A (cpt r n).length c (dcs (cpt r n))) := by
    intro i hi hc he u hf hr
    subst he
    rw [hc, List.take_of_length_le (by omega), hrl]
    exact ⟨rfl, hf, hr⟩
  refine vIf_mk (fun h2 => ?_) (fun h2 => jnC_mk ?_)
  · have h2 : (n : Int) < 2 := of_decide_eq_true h2
    refine whole n (Nat.le_refl _) ?_ rfl w (Fr.refl _ _) h
    match n, h2 with
    | 0, _ => rfl
    | 1, _ => simp [cpt, List.take_one, List.head?_eq_getElem?]
    | n + 2, h2 => omega
  have h2 : ¬ (n : Int) < 2 := of_decide_eq_false h2
  have hle := h.le
  obtain ⟨b, hA⟩ : ∃ b, A = some ⟨b, 0, none⟩ := by
    rcases h.at_ with ⟨_, h0, _⟩ | ⟨b, _, hA, _⟩
    · omega
    · exact ⟨b, hA⟩
  subst hA
  refine loop_rule (fun s u => Fr (fun k => blkOf (some (⟨b, 0, none⟩ : Addr)) = some k) w u ∧ Row u B e 32 (some ⟨b, 0, none⟩) n c (dcs r) ∧ ∃ i : Nat, 1 ≤ i ∧ i ≤ n ∧ s = ((some ⟨b, 0, none⟩, n, c), (i : Int), ()) ∧ cpt r i = r.take i)
    (fun s _ => (n - s.2.1).toNat) ?_ _ _ ⟨Fr.refl _ _, h, 1, by omega, by omega, rfl, by simp [cpt, List.take_one, List.head?_eq_getElem?]⟩
  rintro s u C4 ⟨hf, hr, i, hi1, hi, rfl, hc⟩ hC4 _
  refine vIf_mk (fun hlt => ?_) (fun hge => ?_)
  · have hlt2 : (i : Int) < (n : Int) := of_decide_eq_true hlt
    have hrd := (Fr.drew (fun _ => False) u).row hr (fun _ _ h => h)
    obtain ⟨b', o', hA, hcell⟩ := sl_dig hrd.sl hw (i := i) (by omega)
    cases hA
    have ei : IntKind.wrap .i64 ((i : Int) - 1) = ((i - 1 : Nat) : Int) := by rw [i64_id (by omega) (by omega)]; omega
    have gi : r[i]? = some (r[i]'(by omega)) := List.getElem?_eq_getElem (by omega)
    have gp : r[i - 1]? = some (r[i - 1]'(by omega)) := List.getElem?_eq_getElem (by omega)
    have li := hw.at gi
    have lp := hw.at gp
    dsimp only
    rw [ei]
    simp only [Int.toNat_natCast]
    refine dr_mk (gd_mk (decide_eq_true (by omega)) (gd_mk (decide_eq_true (by omega)) ⟨_, by rw [List.length_map]; exact li, hcell i _ gi, dr_mk (gd_mk (decide_eq_true (by omega)) (gd_mk (decide_eq_true (by omega)) ⟨_, by rw [List.length_map]; exact lp, hcell (i - 1) _ gp, eqAB_dig li lp ?_⟩))⟩))
    refine vIf_mk (fun he => ?_) (fun hne => ?_)
    · have he : r[i]'(by omega) = r[i - 1]'(by omega) := by simpa using he
      have hsame : cpt r (i + 1) = r.take i := by
        rw [cpt, if_pos ⟨by omega, by rw [gi, gp, he]⟩, List.append_nil, hc]
      refine gd_mk (decide_eq_true (by omega)) (gd_mk (decide_eq_true (by omega)) (jnC_mk ?_))
      have hsl : slA (some (⟨b, 0, none⟩ : Addr)) c i 32 = some ⟨b, 0 + i * 32, none⟩ := by
        unfold slA
        rw [if_neg (by omega), Option.map_some, add_none]
      rw [hsl]
      refine loop_rule (fun s u => Fr (fun k => blkOf (some (⟨b, 0, none⟩ : Addr)) = some k) w u ∧ ∃ (j : Nat) (P : List Dig), 1 ≤ j ∧ i + j ≤ n ∧ W32 P ∧ P.length = n ∧ Row u B e 32 (some ⟨b, 0, none⟩) n c (dcs P) ∧ (cpt r (i + j)).length < i + j ∧ P.take (cpt r (i + j)).length = cpt r (i + j) ∧ P.drop (cpt r (i + j)).length = r.drop (cpt r (i + j)).length ∧
          s = ((some ⟨b, 0, none⟩, n, c), (((cpt r (i + j)).length : Nat) : Int), (some ⟨b, 0 + i * 32, none⟩, n - i, c - i), (j : Int), ()))
        (fun s _ => (n - s.2.2.2.1).toNat) ?_ _ _ ⟨hf.trans (Fr.drew (fun _ => False) u) (fun _ _ h => h) (fun _ _ h => h.elim), 1, r, by omega, by omega, hw, hrl, hrd, ?_, ?_, ?_, ?_⟩
      rotate_left
      · rw [hsame, List.length_take]; omega
      · rw [hsame, List.length_take, Nat.min_eq_left (by omega)]
      · rfl
      · rw [hsame, List.length_take, Nat.min_eq_left (by omega)]; rfl
      clear hC4 hf hr hrd hcell
      rintro s u C9 ⟨hf, j, P, hj1, hjn, hP, hPl, hr, hk, htk, hdp, rfl⟩ hC9 _
      generalize hkk : (cpt r (i + j)).length = k at hk htk hdp
      have hrd := (Fr.drew (fun _ => False) u).row hr (fun _ _ h => h)
      have hget : ∀ q, k ≤ q → P[q]? = r[q]? := by
        intro q hq
        have h1 : (P.drop k)[q - k]? = (r.drop k)[q - k]? := by rw [hdp]
        rw [List.getElem?_drop, List.getElem?_drop, show k + (q - k) = q by omega] at h1
        exact h1
      refine vIf_mk (fun hlt => ?_) (fun hge => ?_)
      · have hlt3 : (j : Int) < ((n - i : Nat) : Int) := of_decide_eq_true hlt
        obtain ⟨b', o', hA, hcell⟩ := sl_dig hrd.sl hP (i := i + j) (by omega)
        cases hA
        have ej : IntKind.wrap .i64 ((j : Int) - 1) = ((j - 1 : Nat) : Int) := by rw [i64_id (by omega) (by omega)]; omega
        have gi : r[i + j]? = some (r[i + j]'(by omega)) := List.getElem?_eq_getElem (by omega)
        have gp : r[i + j - 1]? = some (r[i + j - 1]'(by omega)) := List.getElem?_eq_getElem (by omega)
        have li := hw.at gi
        have lp := hw.at gp
        have ci := hcell (i + j) _ ((hget _ (by omega)).trans gi)
        have cp := hcell (i + j - 1) _ ((hget _ (by omega)).trans gp)
        have oi : 0 + i * 32 + j * 32 = 0 + (i + j) * 32 := by omega
        have op : 0 + i * 32 + (j - 1) * 32 = 0 + (i + j - 1) * 32 := by omega
        rw [← oi] at ci
        rw [← op] at cp
        dsimp only
        rw [ej]
        simp only [Int.toNat_natCast]
        refine dr_mk (gd_mk (decide_eq_true (by omega)) (gd_mk (decide_eq_true hlt3) ⟨_, by rw [List.length_map]; exact li, ci, dr_mk (gd_mk (decide_eq_true (by omega)) (gd_mk (decide_eq_true (by omega)) ⟨_, by rw [List.length_map]; exact lp, cp, eqAB_dig li lp ?_⟩))⟩))
        have enext : IntKind.wrap .i64 ((j : Int) + 1) = ((j + 1 : Nat) : Int) := by rw [i64_id (by omega) (by omega)]; rfl
        refine vIf_mk (fun hne => ?_) (fun he => ?_)
        · have hne2 : r[i + j]'(by omega) ≠ r[i + j - 1]'(by omega) := by
            intro he; rw [he] at hne; simp at hne
          have hnx : cpt r (i + (j + 1)) = cpt r (i + j) ++ [r[i + j]'(by omega)] := by
            rw [← Nat.add_assoc, cpt, if_neg, gi, Option.toList_some]
            rintro ⟨_, h'⟩
            rw [gi, gp] at h'
            exact hne2 (Option.some.inj h')
          refine dr_mk (gd_mk (decide_eq_true (by omega)) (gd_mk (decide_eq_true hlt3) ⟨_, by rw [List.length_map]; exact li, ci, dr_mk (gd_mk (decide_eq_true (by omega)) (gd_mk (decide_eq_true (by omega)) (gd_mk (by rw [List.length_map, li]; rfl) ?_)))⟩))
          refine row_splice (A := some ⟨b, 0, none⟩) (o' := k * 32) hrd (by omega) (by rw [List.length_map, li]; omega) (bvs_one _) (fun u2 hr2 f2 => jnC_mk (hC9 _ _ ⟨?_, j + 1, P.set k (r[i + j]'(by omega)), by omega, by omega, ?_, by simpa using hPl, ?_, ?_, ?_, ?_, ?_⟩ ?_))
          · exact (hf.trans (Fr.drew (fun _ => False) u) (fun _ _ h => h) (fun _ _ h => h.elim)).trans1 f2
          · intro x hx
            rcases List.mem_or_eq_of_mem_set hx with h1 | h1
            · exact hP x h1
            · subst h1; exact li
          · rw [dcs_set hP li (by omega)]; exact hr2
          · rw [hnx, List.length_append, hkk]; simp; omega
          · rw [hnx, List.length_append, hkk]
            show (P.set k _).take (k + 1) = _
            rw [List.take_add_one, List.getElem?_set_self (by omega), Option.toList_some, List.take_set_of_le (Nat.le_refl k), htk]
          · rw [hnx, List.length_append, hkk]
            show (P.set k _).drop (k + 1) = r.drop (k + 1)
            rw [List.drop_set_of_lt (by omega)]
            have h3 := congrArg (List.drop 1) hdp
            rw [List.drop_drop, List.drop_drop] at h3
            exact h3
          · rw [hnx, List.length_append, hkk, enext]
            show (_, IntKind.wrap .i64 ((k : Int) + 1), _, _, ()) = _
            rw [i64_id (by omega) (by omega)]; rfl
          · show ((n : Int) - IntKind.wrap .i64 ((j : Int) + 1)).toNat < ((n : Int) - (j : Int)).toNat
            rw [enext]; omega
        · have he2 : r[i + j]'(by omega) = r[i + j - 1]'(by omega) := by simpa using he
          have hnx : cpt r (i + (j + 1)) = cpt r (i + j) := by
            rw [← Nat.add_assoc, cpt, if_pos ⟨by omega, by rw [gi, gp, he2]⟩, List.append_nil]
          refine jnC_mk (hC9 _ _ ⟨hf.trans (Fr.drew (fun _ => False) u) (fun _ _ h => h) (fun _ _ h => h.elim), j + 1, P, by omega, by omega, hP, hPl, hrd, by rw [hnx, hkk]; omega, by rw [hnx, hkk]; exact htk, by rw [hnx, hkk]; exact hdp, ?_⟩ ?_)
          · rw [hnx, hkk, enext]
          · show ((n : Int) - IntKind.wrap .i64 ((j : Int) + 1)).toNat < ((n : Int) - (j : Int)).toNat
            rw [enext]; omega
      · have hge3 : ¬ (j : Int) < ((n - i : Nat) : Int) := of_decide_eq_false hge
        have hij : i + j = n := by omega
        rw [hij] at hkk htk
        have hsk : slA (some (⟨b, 0, none⟩ : Addr)) c k 32 = some ⟨b, 0 + k * 32, none⟩ := by
          unfold slA
          rw [if_neg (by omega), Option.map_some, add_none]
        dsimp only
        simp only [Int.toNat_natCast]
        rw [hsk]
        refine gd_mk (decide_eq_true (by omega)) (gd_mk (decide_eq_true (by omega)) (vIf_f (by simp; omega) ?_))
        have hZ : Z33.length = 32 := by decide +kernel
        refine row_splice (A := some ⟨b, 0, none⟩) (o' := k * 32) hr (by omega) (by rw [zeros_length, hZ, ← Nat.add_mul]; exact Nat.mul_le_mul_right _ (by omega)) (fun v hv => ?_) (fun u2 hr2 f2 => jnC_mk (fun _ => ?_))
        · simp only [zeros, List.mem_flatten, List.mem_replicate] at hv
          obtain ⟨l, ⟨_, rfl⟩, hv⟩ := hv
          revert v
          decide +kernel
        · refine gd_mk (decide_eq_true (by show (0 : Int) ≤ (k : Int); omega)) (gd_mk (decide_eq_true (by show (k : Int) ≤ (c : Int); omega)) ⟨?_, hf.trans1 f2, ?_⟩)
          · show Value.slice (slA (some ⟨b, 0, none⟩) c 0 32) ((k : Int).toNat) c = _
            rw [Int.toNat_natCast, hkk]
            congr 1
            unfold slA
            split
            · rfl
            · rw [Option.map_some, add_none, Nat.zero_mul, Nat.add_zero]
          · have hcut := row_cut hr2 (k := k) (by omega)
            have hpl : (dcs P).length = n * 32 := by rw [dcs_len hP, hPl]
            have e : (splice (dcs P) (k * 32) (zeros (n - k) Z33)).take (k * 32) = dcs (cpt r n) := by
              unfold splice
              rw [List.append_assoc, List.take_append_of_le_length (by rw [List.length_take, hpl]; have := Nat.mul_le_mul_right 32 (show k ≤ n by omega); omega), List.take_take, Nat.min_self, ← dcs_take hP, htk]
            rw [e] at hcut
            rw [hkk]; exact hcut
    · have hne2 : r[i]'(by omega) ≠ r[i - 1]'(by omega) := by
        intro he; rw [he] at hne; simp at hne
      refine jnC_mk (hC4 _ _ ⟨hf.trans (Fr.drew (fun _ => False) u) (fun _ _ h => h) (fun _ _ h => h.elim), hrd, i + 1, by omega, by omega, ?_, ?_⟩ ?_)
      · show (_, IntKind.wrap .i64 ((i : Int) + 1), ()) = _
        rw [i64_id (by omega) (by omega)]; rfl
      · rw [cpt, if_neg, hc, List.take_add_one]
        rintro ⟨_, h'⟩
        rw [gi, gp] at h'
        exact hne2 (Option.some.inj h')
      · show ((n : Int) - IntKind.wrap .i64 ((i : Int) + 1)).toNat < ((n : Int) - (i : Int)).toNat
        rw [i64_id (by omega) (by omega)]; omega
  · have hge2 : ¬ (i : Int) < (n : Int) := of_decide_eq_false hge
    exact whole i hi hc (by omega) u hf hr
end Go.Proofs.YthcclmlbkfadcaaGreat.Dg
/- rows of digests: Row (for a seat without Has; the same text as DRowG's first part) -/
namespace Go.Proofs.YthcclmlbkfadcaaGreat.Dg
open Go.GV Go.RowKit Go.Lib
set_option linter.unusedVariables false
set_option linter.unusedSimpArgs false
theorem sort_nil (c : Nat) (w : World) : Calls Tryz.prog 141 #[.slice none 0 c, .func (.func 142) #[] #[]] w fun e w' => e = .returned (.tuple #[]) ∧ w' = w :=
  AnyF.slices_SortFunc_none Tryz.sortD none c (.func (.func 142) #[] #[]) w
theorem row_calls (A : Option Addr) (n c : Nat) (r : List Dig) (w : World) (h : Sl w 32 A n (dcs r)) (hw : W32 r) (hn : n ≤ 1099511627776) :
    Calls Tryz.prog 118 #[.slice A n c] w fun e w' => Fr (fun _ => False) w w' ∧ ∃ A' c' r', e = .returned (.slice A' r'.length c') ∧ Row w' w.heap.size 33 32 A' r'.length c' (dcs r') ∧ W32 r' ∧ Asc r' ∧ r'.length ≤ n ∧ ∀ d, d ∈ r' ↔ d ∈ r := by
  refine (F118.of A n c w (Q := fun v w' => Fr (fun _ => False) w w' ∧ ∃ A' c' r', v = .slice A' r'.length c' ∧ Row w' w.heap.size 33 32 A' r'.length c' (dcs r') ∧ W32 r' ∧ Asc r' ∧ r'.length ≤ n ∧ ∀ d, d ∈ r' ↔ d ∈ r) ?_).mono (fun e w' ⟨v, he, hf, A', c', r', hv, h⟩ => ⟨hf, A', c', r', by rw [he, hv], h⟩)
  have hrl := sl_len h hw
  refine (clone_dig A n c r w h hw hn).mono ?_
  rintro e w1 ⟨A1, c1, rfl, f1, h1⟩
  refine ⟨_, _, _, rfl, ?_⟩
  have fin : ∀ (u : World) (r1 : List Dig), Fr (fun k => blkOf A1 = some k) w1 u → W32 r1 → Row u w.heap.size 33 32 A1 n c1 (dcs r1) → r1.Perm r → r1.Pairwise LeD →
      Calls Tryz.prog 143 #[.slice A1 n c1] u fun e9 w8 => ∃ (A10 : Option Addr) (n11 c12 : Nat), e9 = .returned (.slice A10 n11 c12) ∧ (Fr (fun _ => False) w w8 ∧ ∃ A' c' r', Value.slice A10 n11 c12 = .slice A' r'.length c' ∧ Row w8 w.heap.size 33 32 A' r'.length c' (dcs r') ∧ W32 r' ∧ Asc r' ∧ r'.length ≤ n ∧ ∀ d, d ∈ r' ↔ d ∈ r) := by
    intro u r1 fu hw1 hr1 hp hs
    have hl1 := sl_len hr1.sl hw1
    refine (compact_dig w.heap.size _ A1 c1 r1 n u hr1 hw1 hn).mono ?_
    rintro e w8 ⟨rfl, f8, h8⟩
    refine ⟨_, _, _, rfl, ?_, A1, c1, cpt r1 n, rfl, h8, cpt_W32 hw1 n, cpt_asc hs n (by omega), cpt_len r1 n, fun d => ?_⟩
    · have hA : ∀ k, blkOf A1 = some k → w.heap.size ≤ k := fun k hk => (h1.blt hk).1
      exact (f1.trans fu (fun _ _ h => h) (fun k hk h' => by have := hA k h'; omega)).trans f8 (fun _ _ h => h) (fun k hk h' => by have := hA k h'; omega)
    · rw [cpt_mem, List.take_of_length_le (by omega)]; exact hp.mem_iff
  cases A1 with
  | none =>
    have hn0 : n = 0 ∧ c1 = 0 := by
      rcases h1.at_ with ⟨_, h', h''⟩ | ⟨_, _, h', _⟩
      · exact ⟨h', h''⟩
      · cases h'
    obtain ⟨rfl, rfl⟩ := hn0
    have : r = [] := List.length_eq_zero_iff.1 hrl
    subst this
    refine (sort_nil 0 w1).mono ?_
    rintro e w2 ⟨rfl, rfl⟩
    exact ⟨rfl, fin w2 [] (Fr.refl _ _) hw h1 (List.Perm.refl _) List.Pairwise.nil⟩
  | some a =>
    have ha : ∃ b, a = ⟨b, 0, none⟩ := by
      rcases h1.at_ with ⟨h', _⟩ | ⟨b, _, h', _⟩
      · cases h'
      · exact ⟨b, Option.some.inj h'⟩
    obtain ⟨b, rfl⟩ := ha
    refine (sort_dig w.heap.size _ b c1 r n w1 h1 hw (by omega)).mono ?_
    rintro e w2 ⟨rfl, f2, r2, hw2, hr2, hp, hs⟩
    exact ⟨rfl, fin w2 r2 (f2.mono (fun k _ hk => by subst hk; rfl)) hw2 hr2 hp hs⟩
end Go.Proofs.YthcclmlbkfadcaaGreat.Dg
/- rows of digests: one more -/
namespace Go.Proofs.YthcclmlbkfadcaaGreat.Dg
open Go.GV Go.RowKit Go.Lib
set_option linter.unusedVariables false
set_option linter.unusedSimpArgs false
theorem push_dig {w : World} {B : Nat} {A : Option Addr} {n c : Nat} {out : List Dig} {d : Dig} {K : Option Addr → Nat → Nat → World → Prop} (hr : Row w B 33 32 A n c (dcs out)) (hd : d.length = 32) (hB : B ≤ w.heap.size) (hn : n ≤ 2199023255552)
    (hK : ∀ A' c' w', Row w' B 33 32 A' (n + 1) c' (dcs (out ++ [d])) → Fr (fun k => blkOf A = some k) w w' → K A' (n + 1) c' w') : nw w (d.map bv ++ []) 33 fun b w' => app w' 32 32 Z33 33 A n c (.slice (some ⟨b, 0, none⟩) 1 1) K := by
  refine nw_mk ?_
  rw [List.append_nil]
  have f1 : Fr (fun _ => False) w (w.alloc (.cells (d.map bv).toArray 33)) := Fr.alloc _ _ _
  have r1 : Row (w.alloc (.cells (d.map bv).toArray 33)) 0 33 32 (some ⟨w.heap.size, 0, none⟩) 1 1 (dcs [d]) := by
    rw [dcs_one]; exact Row.new (Nat.zero_le _) (by rw [List.length_map, hd])
  have hs : (w.alloc (.cells (d.map bv).toArray 33)).heap.size = w.heap.size + 1 := alloc_size _ _
  generalize w.alloc (.cells (d.map bv).toArray 33) = w1 at f1 r1 hs ⊢
  have hA : ∀ k, blkOf A = some k → k < w.heap.size := fun k hk => (hr.blt hk).2
  refine app_row (f1.row hr (fun _ _ h => h)) r1.sl.src (dcs_oneCell [d]) (by decide +kernel) (by omega) (by omega) (by omega) (fun A' c' w' hr' f' => hK A' c' w' (by rw [dcs_append]; exact hr') ?_)
  exact f1.trans f' (fun _ _ h => h.elim) (fun _ _ h => h)
end Go.Proofs.YthcclmlbkfadcaaGreat.Dg
/- a table of slots with entries: New, Row -/
namespace Go.Proofs.YthcclmlbkfadcaaGreat.Slo
open Go.GV Go.RowKit Go.Lib Go.Slots Go.Proofs.YthcclmlbkfadcaaGreat.Dg
set_option linter.unusedVariables false
set_option linter.unusedSimpArgs false
def row0 (n : Nat) : SRow := List.replicate n none
theorem row0_no (n : Nat) : ∀ p k v, ¬ At (row0 n) p k v := fun p k v h => by
  have h1 := List.mem_of_getElem? h
  have h2 := (List.mem_replicate.1 h1).2
  cases h2
theorem row0_inv {n : Nat} (h : 0 < n) : Inv (homeOf n) n (row0 n) :=
  ⟨by simp [row0], fun k => homeOf_lt h k, fun p k v h => absurd h (row0_no n p k v), fun p q k v v' h => absurd h (row0_no n p k v)⟩
theorem row0_tab (n : Nat) : TabC n (row0 n) (zeros n Z157) := by
  have Zl : Z157.length = 71 := rfl
  refine ⟨by rw [zeros_length, Zl], by simp [row0], fun i o hi => ?_, fun v hv => ?_⟩
  · have hil := (List.getElem?_eq_some_iff.1 hi).1
    rw [row0, List.length_replicate] at hil
    have : o = none := (List.mem_replicate.1 (List.mem_of_getElem? hi)).2
    subst this
    show (zeros n Z157)[i * 71]? = some (.bool false)
    rw [zeros_get Z157 n (i * 71) (by rw [Zl]; omega), Zl, Nat.mul_mod_left]
    rfl
  · simp only [zeros, List.mem_flatten, List.mem_replicate] at hv
    obtain ⟨l, ⟨_, rfl⟩, hv⟩ := hv
    revert v
    decide +kernel
theorem new_calls (w : World) : Calls Tryz.prog 78 #[] w fun e w' => ∃ bt bs, e = .returned (.pointer (some ⟨bt, 0, none⟩)) ∧ Fr (fun _ => False) w w' ∧ Tab w' w.heap.size bt bs 8 (row0 8) ∧ w.heap.size ≤ w'.heap.size := by
  refine (F78.of w (Q := fun v w' => ∃ bt bs, v = .pointer (some ⟨bt, 0, none⟩) ∧ Fr (fun _ => False) w w' ∧ Tab w' w.heap.size bt bs 8 (row0 8) ∧ w.heap.size ≤ w'.heap.size) ?_).mono (fun e w' ⟨v, he, bt, bs, hv, h⟩ => ⟨bt, bs, by rw [he, hv], h⟩)
  refine nw_mk (nw_mk ?_)
  have f1 : Fr (fun _ => False) w (w.alloc (.cells (zeros 8 Z157).toArray 157)) := Fr.alloc _ _ _
  have r1 : RecAt (w.alloc (.cells (zeros 8 Z157).toArray 157)) w.heap.size 157 (zeros 8 Z157) := RecAt.new w _ _
  have hs1 : (w.alloc (.cells (zeros 8 Z157).toArray 157)).heap.size = w.heap.size + 1 := alloc_size _ _
  generalize w.alloc (.cells (zeros 8 Z157).toArray 157) = w1 at f1 r1 hs1 ⊢
  have f2 : Fr (fun _ => False) w1 (w1.alloc (.cells ([Value.slice (some ⟨w.heap.size, 0, none⟩) 8 8] ++ ([Value.int .i64 0] ++ [])).toArray 154)) := Fr.alloc _ _ _
  have r2 : RecAt (w1.alloc (.cells ([Value.slice (some ⟨w.heap.size, 0, none⟩) 8 8] ++ ([Value.int .i64 0] ++ [])).toArray 154)) w1.heap.size 154 ([Value.slice (some ⟨w.heap.size, 0, none⟩) 8 8] ++ ([Value.int .i64 0] ++ [])) := RecAt.new w1 _ _
  refine ⟨w1.heap.size, w.heap.size, rfl, f1.trans1 f2, ⟨⟨154, 157, zeros 8 Z157, r2, r1.fr f2 (fun h => h), by omega, row0_tab 8⟩, row0_inv (by omega), by omega, by rw [row0, cntF_none]; omega, by omega, by omega, by omega⟩, by rw [alloc_size]; omega⟩
/-! ### the row of all digests -/
def kys (S : SRow) : List Dig := S.filterMap (fun o => o.map (·.1))
def ky1 : Option (Key × List Value) → List Dig
  | none => []
  | some x => [x.1]
theorem kys_snoc {S : SRow} {j : Nat} {o : Option (Key × List Value)} (h : S[j]? = some o) : kys (S.take (j + 1)) = kys (S.take j) ++ ky1 o := by
  rw [List.take_add_one, h, Option.toList_some]
  cases o <;> simp [kys, ky1]
theorem kys_mem {S : SRow} {d : Dig} : d ∈ kys S ↔ ∃ v, Has S d v := by
  unfold kys Has At
  rw [List.mem_filterMap]
  constructor
  · rintro ⟨o, ho, hd⟩
    obtain ⟨i, hi⟩ := List.mem_iff_getElem?.1 ho
    cases o with
    | none => cases hd
    | some x => obtain ⟨k, v⟩ := x; simp at hd; subst hd; exact ⟨v, i, hi⟩
  · rintro ⟨v, i, hi⟩
    exact ⟨some (d, v), List.mem_of_getElem? hi, rfl⟩
theorem kys_len (S : SRow) : (kys S).length ≤ S.length := List.length_filterMap_le _ _
theorem trow_calls (B bt bs N : Nat) (S : SRow) (w : World) (h : Tab w B bt bs N S) (hN : N ≤ 274877906944) :
    Calls Tryz.prog 91 #[.pointer (some ⟨bt, 0, none⟩)] w fun e w' => Fr (fun _ => False) w w' ∧ ∃ A' c' r', e = .returned (.slice A' r'.length c') ∧ Row w' w.heap.size 33 32 A' r'.length c' (dcs r') ∧ W32 r' ∧ Asc r' ∧ r'.length ≤ N ∧ ∀ d, d ∈ r' ↔ ∃ v, Has S d v := by
  refine (F91.of (some ⟨bt, 0, none⟩) w (Q := fun v w' => Fr (fun _ => False) w w' ∧ ∃ A' c' r', v = .slice A' r'.length c' ∧ Row w' w.heap.size 33 32 A' r'.length c' (dcs r') ∧ W32 r' ∧ Asc r' ∧ r'.length ≤ N ∧ ∀ d, d ∈ r' ↔ ∃ v, Has S d v) ?_).mono (fun e w' ⟨v, he, hf, A', c', r', hv, h⟩ => ⟨hf, A', c', r', by rw [he, hv], h⟩)
  obtain ⟨ty, ty', cs, ht⟩ := h.at_
  have hSl := ht.tab.slen
  have Zl : Z157.length = 71 := rfl
  have hkW : ∀ d ∈ kys S, d.length = 32 := fun d hd => by
    obtain ⟨v, p, hp⟩ := kys_mem.1 hd
    exact (ht.tab.key hp).1
  refine vIf_f rfl (dr_mk ⟨_, _, _, ht.hd.cell rfl, jnC_mk ?_⟩)
  refine loop_rule (fun s u => Fr (fun _ => False) w u ∧ ∃ (j : Nat) (A5 : Option Addr) (c5 : Nat), j ≤ N ∧ s = ((A5, (kys (S.take j)).length, c5), (some ⟨bs, 0, none⟩, N, N), (N : Int), (j : Int), ()) ∧ Row u w.heap.size 33 32 A5 (kys (S.take j)).length c5 (dcs (kys (S.take j))))
    (fun s _ => (N - s.2.2.2.1).toNat) ?_ _ _ ⟨Fr.refl _ _, 0, none, 0, by omega, rfl, Row.nil _ _ _ _⟩
  rintro s u C ⟨hf, j, A5, c5, hj, rfl, hr5⟩ hC _
  have hus := hf.size
  refine vIf_mk (fun hlt => ?_) (fun hge => ?_)
  · have hlt2 : (j : Int) < (N : Int) := of_decide_eq_true hlt
    have hmeas : ((N : Int) - IntKind.wrap .i64 ((j : Int) + 1)).toNat < ((N : Int) - (j : Int)).toNat := by rw [ei j (by omega)]; omega
    obtain ⟨o, ho⟩ : ∃ o, S[j]? = some o := ⟨_, List.getElem?_eq_getElem (by omega)⟩
    have hsn := kys_snoc ho
    have hle := kys_len (S.take j)
    rw [List.length_take] at hle
    have hcl := cut_len ht.tab (i := j) (by omega)
    have hsc := slotAt_cut (ht.tab.slot j o ho)
    have hsl := ht.sl.fr hf (fun h => h)
    refine dr_mk (gd_mk (decide_eq_true (Int.natCast_nonneg j)) (gd_mk (decide_eq_true hlt2) ⟨(cs.drop (j * 71)).take 71, hcl, ?_, nw_mk (gd_mk (by simpa using hcl) ?_)⟩))
    · rw [Int.toNat_natCast, Nat.zero_add]; exact cut_cells hsl _ _
    generalize hvs : (cs.drop (j * 71)).take 71 = vs at hcl hsc ⊢
    have g1 : Fr (fun _ => False) u (u.alloc (.cells Z157.toArray 157)) := Fr.alloc _ _ _
    have rz : RecAt (u.alloc (.cells Z157.toArray 157)) u.heap.size 157 Z157 := RecAt.new u _ _
    have hone : ∀ x ∈ vs, x.oneCell' = true := by
      intro x hx
      have hx2 : x ∈ cs := by
        rw [← hvs] at hx
        exact List.mem_of_mem_drop (List.mem_of_mem_take hx)
      exact ht.tab.one x hx2
    refine rz.st_mk (o := 0) (by rw [Zl, hcl]; omega) hone (fun rv g2 => ?_)
    rw [splice_all (by rw [hcl, Zl])] at rv
    have g12 : Fr (fun _ => False) u (stB (u.alloc (.cells Z157.toArray 157)) u.heap.size 0 vs) := g1.trans g2 (fun _ _ h => h) (fun k hk h => by omega)
    have hs3 : u.heap.size < (stB (u.alloc (.cells Z157.toArray 157)) u.heap.size 0 vs).heap.size := by rw [stB_size, alloc_size]; omega
    generalize stB (u.alloc (.cells Z157.toArray 157)) u.heap.size 0 vs = u2 at rv g12 hs3 ⊢
    have hf2 := hf.trans1 g12
    have hr6 := g12.row hr5 (fun _ _ h => h)
    cases o with
    | none =>
      have h0 : vs[0]? = some (.bool false) := by simpa [SlotAt] using hsc
      simp only [ky1, List.append_nil] at hsn
      refine ⟨false, rv.cell h0, vIf_f rfl (jnC_mk (hC _ _ ⟨hf2, j + 1, A5, c5, by omega, by rw [hsn, ei j (by omega)], by rw [hsn]; exact hr6⟩ hmeas))⟩
    | some x =>
      obtain ⟨k, v⟩ := x
      simp only [ky1] at hsn
      have hk : k.length = 32 := hsc.1.1
      have hve := slot_one hsc hcl rfl
      subst hve
      have hkc : ∀ q y, (k.map bv)[q]? = some y → (slotC k v)[0 + 1 + q]? = some y := fun q y hq => by
        have hql := (List.getElem?_eq_some_iff.1 hq).1
        unfold slotC
        rw [List.getElem?_append_right (by simp), List.getElem?_append_left (by simp at hql ⊢; omega)]
        simpa using hq
      have lkk : (k.map bv).length = 32 := by simp [hk]
      refine ⟨true, rv.cell rfl, vIf_t rfl ⟨k.map bv, lkk, rv.cells hkc, gd_mk (by rw [lkk]; rfl) ?_⟩⟩
      refine push_dig (n := (kys (S.take j)).length) hr6 hk (by omega) (by omega) (fun A' c' u3 hr' f3 => jnC_mk (hC _ _ ⟨?_, j + 1, A', c', by omega, ?_, ?_⟩ hmeas))
      · refine hf2.trans f3 (fun _ _ h => h) (fun q hq h' => ?_)
        have := (hr6.blt h').1
        omega
      · rw [hsn, List.length_append, ei j (by omega)]; rfl
      · rw [hsn, List.length_append]; exact hr'
  · have hge2 : ¬ (j : Int) < (N : Int) := of_decide_eq_false hge
    have hta : S.take j = S := List.take_of_length_le (by omega)
    rw [hta] at hr5
    rw [hta]
    have hkl := kys_len S
    refine (Dg.row_calls A5 (kys S).length c5 (kys S) u hr5.sl hkW (by omega)).mono ?_
    rintro e u2 ⟨f2, A6, c6, r6, rfl, hr6, hw6, ha6, hl6, hm6⟩
    exact ⟨_, _, _, rfl, hf.trans1 f2, A6, c6, r6, rfl, row_low (by omega) hr6, hw6, ha6, by omega, fun d => by rw [hm6, kys_mem]⟩
end Go.Proofs.YthcclmlbkfadcaaGreat.Slo
/- an index, plainly: entries that rise by their digests -/
namespace Go.Proofs.YthcclmlbkfadcaaGreat
open Go.GV Go.RowKit Go.Lib
set_option linter.unusedVariables false
set_option linter.unusedSimpArgs false
def cmpD (a b : List UInt8) : Int := compareBytes a b
theorem cmpD_zero (a b : List UInt8) : cmpD a b = 0 ↔ a = b := cmp_zero a b
theorem cmpD_self (a : List UInt8) : cmpD a a = 0 := (cmpD_zero a a).2 rfl
theorem cmpD_anti (a b : List UInt8) : cmpD a b = - cmpD b a := cmp_anti _ _
theorem cmpD_trans {a b c : List UInt8} (h1 : cmpD a b < 0) (h2 : cmpD b c < 0) : cmpD a c < 0 := Dg.LtD.trans h1 h2
/-! ### tables -/
def AscE (l : List En) : Prop := l.Pairwise (fun a b => cmpD a.d b.d < 0)
def setE (e : En) : List En → List En
  | [] => [e]
  | x :: xs => if cmpD x.d e.d < 0 then x :: setE e xs else if x.d = e.d then e :: xs else e :: x :: xs
theorem setE_mem (e : En) : ∀ (l : List En) (y : En), y ∈ setE e l → y = e ∨ y ∈ l
  | [], y, h => by simp [setE] at h; exact .inl h
  | x :: xs, y, h => by
    unfold setE at h
    split at h
    · rcases List.mem_cons.1 h with h | h
      · exact .inr (h ▸ List.mem_cons_self ..)
      · exact (setE_mem e xs y h).imp id (List.mem_cons_of_mem _)
    · split at h
      · rcases List.mem_cons.1 h with h | h
        · exact .inl h
        · exact .inr (List.mem_cons_of_mem _ h)
      · rcases List.mem_cons.1 h with h | h
        · exact .inl h
        · exact .inr h
theorem setE_len (e : En) : ∀ l : List En, (setE e l).length ≤ l.length + 1
  | [] => by simp [setE]
  | x :: xs => by
    have := setE_len e xs
    unfold setE
    split
    · simp; omega
    · split <;> simp
theorem setE_asc (e : En) : ∀ {l : List En}, AscE l → AscE (setE e l)
  | [], _ => List.pairwise_singleton _ _
  | x :: xs, h => by
    have hc := List.pairwise_cons.1 h
    unfold setE
    by_cases h1 : cmpD x.d e.d < 0
    · rw [if_pos h1]
      refine List.pairwise_cons.2 ⟨fun y hy => ?_, setE_asc e hc.2⟩
      rcases setE_mem e xs y hy with rfl | hy
      · exact h1
      · exact hc.1 y hy
    · rw [if_neg h1]
      by_cases h2 : x.d = e.d
      · rw [if_pos h2]
        exact List.pairwise_cons.2 ⟨fun y hy => by rw [← h2]; exact hc.1 y hy, hc.2⟩
      · rw [if_neg h2]
        have hlt : cmpD e.d x.d < 0 := by
          have := cmpD_anti x.d e.d
          have : cmpD x.d e.d ≠ 0 := fun h => h2 ((cmpD_zero _ _).1 h)
          omega
        refine List.pairwise_cons.2 ⟨fun y hy => ?_, h⟩
        rcases List.mem_cons.1 hy with rfl | hy
        · exact hlt
        · exact cmpD_trans hlt (hc.1 y hy)
/-- what a table says of a name -/
def getE (dg : List UInt8) (l : List En) : En × Bool := match l.find? (fun x => decide (x.d = dg)) with
  | some e => (e, true)
  | none => (zE, false)
theorem getE_none {dg : List UInt8} {l : List En} (h : ∀ x ∈ l, x.d ≠ dg) : getE dg l = (zE, false) := by
  unfold getE
  rw [List.find?_eq_none.2 (fun x hx => by simpa using h x hx)]
theorem getE_snoc {dg : List UInt8} {a b : List En} {e : En} (h : ∀ x ∈ a, x.d ≠ dg) (he : e.d = dg) : getE dg (a ++ e :: b) = (e, true) := by
  unfold getE
  rw [List.find?_append, List.find?_eq_none.2 (fun x hx => by simpa using h x hx), List.find?_cons_of_pos (by simpa using he)]
  rfl
theorem at_splitE {α : Type} {l : List α} {i : Nat} {e : α} (h : l[i]? = some e) : l = l.take i ++ e :: l.drop (i + 1) := by
  obtain ⟨hi, he⟩ := List.getElem?_eq_some_iff.1 h
  subst he
  rw [List.getElem_cons_drop, List.take_append_drop]
/-! ### the document's Set -/
def setSE (e : En) (s : List En × Bool) (x : En) : List En × Bool :=
  let t := if !s.2 && !decide (cmpD x.d e.d < 0) then (s.1 ++ [e], true) else s
  (if x.d = e.d then t.1 else t.1 ++ [x], t.2)
def setFE (e : En) (s : List En × Bool) : List En := if s.2 then s.1 else s.1 ++ [e]
/-! ### what is left, what is there -/
def keepLE (sg : List Int) (l : List En) : List En := l.filterMap (fun e => if (keepE e sg).2 then some (keepE e sg).1 else none)
theorem keepLE_len (sg : List Int) (l : List En) : (keepLE sg l).length ≤ l.length := List.length_filterMap_le _ _
/-! ### what a table has -/
theorem setE_mem_self (e : En) : ∀ l : List En, e ∈ setE e l
  | [] => by simp [setE]
  | x :: xs => by
    unfold setE
    split
    · exact List.mem_cons_of_mem _ (setE_mem_self e xs)
    · split <;> exact List.mem_cons_self ..
theorem setE_keep (e : En) : ∀ (l : List En) (y : En), y ∈ l → y.d ≠ e.d → y ∈ setE e l
  | [], y, h, _ => by cases h
  | x :: xs, y, h, hne => by
    unfold setE
    rcases List.mem_cons.1 h with h | h
    · subst h
      split
      · exact List.mem_cons_self ..
      · exact List.mem_cons_of_mem _ (List.mem_cons_self ..)
    · split
      · exact List.mem_cons_of_mem _ (setE_keep e xs y h hne)
      · split
        · exact List.mem_cons_of_mem _ h
        · exact List.mem_cons_of_mem _ (List.mem_cons_of_mem _ h)
theorem asc_uniq {l : List En} (h : AscE l) {x y : En} (hx : x ∈ l) (hy : y ∈ l) (hd : x.d = y.d) : x = y := by
  induction l with
  | nil => cases hx
  | cons a l ih =>
    have hc := List.pairwise_cons.1 h
    rcases List.mem_cons.1 hx with h1 | h1 <;> rcases List.mem_cons.1 hy with h2 | h2
    · rw [h1, h2]
    · have := hc.1 y h2; rw [← h1, hd, cmpD_self] at this; omega
    · have := hc.1 x h1; rw [← h2, ← hd, cmpD_self] at this; omega
    · exact ih hc.2 h1 h2
theorem setE_only {e : En} {l : List En} (ha : AscE l) {y : En} (hy : y ∈ setE e l) : y = e ∨ (y ∈ l ∧ y.d ≠ e.d) := by
  by_cases hd : y.d = e.d
  · exact .inl (asc_uniq (setE_asc e ha) hy (setE_mem_self e l) hd)
  · rcases setE_mem e l y hy with h | h
    · exact .inl h
    · exact .inr ⟨h, hd⟩
theorem getE_mem {dg : List UInt8} {l : List En} (h : (getE dg l).2 = true) : (getE dg l).1 ∈ l ∧ (getE dg l).1.d = dg := by
  unfold getE at h ⊢
  split at h
  · rename_i e he
    have := List.find?_some he
    exact ⟨List.mem_of_find?_eq_some he, by simpa using this⟩
  · cases h
theorem getE_of {dg : List UInt8} {l : List En} (ha : AscE l) {e : En} (he : e ∈ l) (hd : e.d = dg) : getE dg l = (e, true) := by
  unfold getE
  cases hf : l.find? (fun x => decide (x.d = dg)) with
  | none =>
    rw [List.find?_eq_none] at hf
    exact absurd hd (by simpa using hf e he)
  | some x =>
    have h1 := List.find?_some hf
    have h2 := List.mem_of_find?_eq_some hf
    have h1 : x.d = dg := by simpa using h1
    rw [asc_uniq ha h2 he (h1.trans hd.symm)]
def digsE (l : List En) : List (List UInt8) := l.map (·.d)
theorem digsE_asc {l : List En} (h : AscE l) : (digsE l).Pairwise (fun a b => cmpD a b < 0) := List.pairwise_map.2 h
/-- two rows that rise with the same members are one -/
theorem asc_ext : ∀ {a b : List (List UInt8)}, a.Pairwise (fun x y => cmpD x y < 0) → b.Pairwise (fun x y => cmpD x y < 0) → (∀ d, d ∈ a ↔ d ∈ b) → a = b
  | [], [], _, _, _ => rfl
  | [], y :: b, _, _, h => by have := (h y).2 (List.mem_cons_self ..); cases this
  | x :: a, [], _, _, h => by have := (h x).1 (List.mem_cons_self ..); cases this
  | x :: a, y :: b, ha, hb, h => by
    have hca := List.pairwise_cons.1 ha
    have hcb := List.pairwise_cons.1 hb
    have hxy : x = y := by
      rcases List.mem_cons.1 ((h x).1 (List.mem_cons_self ..)) with h1 | h1
      · exact h1
      · rcases List.mem_cons.1 ((h y).2 (List.mem_cons_self ..)) with h2 | h2
        · exact h2.symm
        · have h3 := hcb.1 x h1
          have h4 := hca.1 y h2
          have := cmpD_trans h3 h4
          rw [cmpD_self] at this; omega
    subst hxy
    congr 1
    refine asc_ext hca.2 hcb.2 (fun d => ⟨fun hd => ?_, fun hd => ?_⟩)
    · rcases List.mem_cons.1 ((h d).1 (List.mem_cons_of_mem _ hd)) with h1 | h1
      · subst h1; have := hca.1 d hd; rw [cmpD_self] at this; omega
      · exact h1
    · rcases List.mem_cons.1 ((h d).2 (List.mem_cons_of_mem _ hd)) with h1 | h1
      · subst h1; have := hcb.1 d hd; rw [cmpD_self] at this; omega
      · exact h1
/-! ### bounds; New, Apply -/
def BdE (M : Nat) (l : List En) : Prop := ∀ e ∈ l, e.l.length ≤ M
theorem BdE.at {M : Nat} {l : List En} (h : BdE M l) {i : Nat} {e : En} (hi : l[i]? = some e) : e.l.length ≤ M := h e (List.mem_of_getElem? hi)
theorem BdE.mono {M M' : Nat} {l : List En} (h : BdE M l) (hM : M ≤ M') : BdE M' l := fun e he => Nat.le_trans (h e he) hM
theorem BdE.set {M : Nat} {l : List En} (h : BdE M l) {e : En} (he : e.l.length ≤ M) : BdE M (setE e l) := fun x hx => by
  rcases setE_mem e l x hx with rfl | hx
  · exact he
  · exact h x hx
theorem BdE.get {M : Nat} {l : List En} (h : BdE M l) (dg : List UInt8) : (getE dg l).1.l.length ≤ M := by
  cases hb : (getE dg l).2 with
  | true => exact h _ (getE_mem hb).1
  | false =>
    unfold getE at hb ⊢
    split at hb
    · cases hb
    · exact Nat.zero_le _
theorem BdE.keep {M : Nat} {l : List En} (h : BdE M l) (sg : List Int) : BdE M (keepLE sg l) := fun x hx => by
  unfold keepLE at hx
  obtain ⟨y, hy, h1⟩ := List.mem_filterMap.1 hx
  split at h1
  · injection h1 with h1; subst h1; exact Nat.le_trans (keepE_len y sg) (h y hy)
  · cases h1
def newE (l : List En) : List En := l.foldl (fun t e => setE e t) []
theorem newE_step {l : List En} {i : Nat} {e : En} (h : l[i]? = some e) : newE (l.take (i + 1)) = setE e (newE (l.take i)) := by
  unfold newE
  rw [List.take_add_one, h, List.foldl_append]
  rfl
def applyE (l : List En) (x : Wd) : List En :=
  if x.k = 1 ∨ x.k = 2 then setE (putE (getE x.d l).1 x) l else if x.k = 5 ∧ (getE x.d l).2 = true then setE (delE (getE x.d l).1 x) l else l
theorem applyE_asc {l : List En} (h : AscE l) (x : Wd) : AscE (applyE l x) := by
  unfold applyE
  split
  · exact setE_asc _ h
  · split
    · exact setE_asc _ h
    · exact h
theorem applyE_len (l : List En) (x : Wd) : (applyE l x).length ≤ l.length + 1 := by
  unfold applyE
  split
  · exact setE_len _ _
  · split
    · exact setE_len _ _
    · omega
theorem applyE_bd {M : Nat} {l : List En} (h : BdE M l) (x : Wd) : BdE (M + 1) (applyE l x) := by
  have hg := h.get x.d
  unfold applyE
  split
  · refine (h.mono (Nat.le_succ M)).set ?_
    show (norm ((getE x.d l).1.l ++ [x.s])).length ≤ M + 1
    exact Nat.le_trans (norm_one_le _ _) (by omega)
  · split
    · refine (h.mono (Nat.le_succ M)).set ?_
      show (norm (getE x.d l).1.l).length ≤ M + 1
      exact Nat.le_trans (norm_len _) (by omega)
    · exact h.mono (Nat.le_succ M)
/-- how many are there, and their bytes -/
def wr (n : Int) : Int := IntKind.wrap .i64 n
def cntE (l : List En) : Int × Int := l.foldl (fun s e => if e.k = 5 then s else (wr (s.1 + 1), wr (s.2 + e.z))) (0, 0)
end Go.Proofs.YthcclmlbkfadcaaGreat
/- an index: its table; fresh, New, Get, Apply -/
namespace Go.Proofs.YthcclmlbkfadcaaGreat
open Go.GV Go.RowKit Go.Lib
set_option linter.unusedVariables false
set_option linter.unusedSimpArgs false
/-- the blocks of an index -/
def DI (ib bt bs : Nat) : Nat → Prop := fun k => k = ib ∨ k = bt ∨ k = bs
theorem Slo.Tab.off {D : Nat → Prop} {w w' : World} {B bt bs N : Nat} {S : Slo.SRow} (h : Slo.Tab w B bt bs N S) (f : Fr D w w') (h1 : ¬ D bt) (h2 : ¬ D bs) : Slo.Tab w' B bt bs N S :=
  ⟨h.at_.fr f h1 h2, h.inv, h.n8, h.load, h.big, h.bt_, h.bs_⟩
theorem Slo.Tab.lts {w : World} {B bt bs N : Nat} {S : Slo.SRow} (h : Slo.Tab w B bt bs N S) : bt < w.heap.size ∧ bs < w.heap.size := by
  obtain ⟨_, _, _, ht⟩ := h.at_
  exact ⟨ht.hd.lt, ht.sl.lt⟩
structure Ix (X : Nat → Prop) (w : World) (base ib bt bs N p : Nat) (S : Slo.SRow) (l : List En) : Prop where
  ri : RecAt w ib 129 [.pointer (some ⟨bt, 0, none⟩)]
  tb : Slo.Tab w base bt bs N S
  ba : base ≤ ib
  nt : ib ≠ bt
  ns : ib ≠ bs
  has : ∀ k cs, Slo.Has S k cs → ∃ e ∈ l, e.d = k ∧ EnP (fun j => ¬ DI ib bt bs j ∧ X j) w cs e
  all : ∀ e ∈ l, ∃ cs, Slo.Has S e.d cs
  asc : AscE l
  cn : Slo.cntF S ≤ p
  nb : N ≤ 8 + 4 * p
section
variable {X : Nat → Prop} {w w' : World} {base ib bt bs N p : Nat} {S : Slo.SRow} {l : List En}
theorem Ix.off {D : Nat → Prop} (h : Ix X w base ib bt bs N p S l) (f : Fr D w w') (hD : ∀ k, DI ib bt bs k → ¬ D k) (hX : ∀ k, X k → ¬ D k) : Ix X w' base ib bt bs N p S l :=
  ⟨h.ri.fr f (hD _ (.inl rfl)), h.tb.off f (hD _ (.inr (.inl rfl))) (hD _ (.inr (.inr rfl))), h.ba, h.nt, h.ns, fun k cs hk => by
    obtain ⟨e, h1, h2, h3⟩ := h.has k cs hk
    exact ⟨e, h1, h2, h3.fr f (fun j hj => hX j hj.2)⟩, h.all, h.asc, h.cn, h.nb⟩
theorem Ix.fr0 (h : Ix X w base ib bt bs N p S l) (f : Fr (fun _ => False) w w') : Ix X w' base ib bt bs N p S l := h.off f (fun _ _ h => h) (fun _ _ h => h)
theorem Ix.monoX {X' : Nat → Prop} (h : Ix X w base ib bt bs N p S l) (hX : ∀ k, k < w.heap.size → X k → X' k) : Ix X' w base ib bt bs N p S l :=
  ⟨h.ri, h.tb, h.ba, h.nt, h.ns, fun k cs hk => by
    obtain ⟨e, h1, h2, h3⟩ := h.has k cs hk
    exact ⟨e, h1, h2, h3.mono (fun j hj hh => ⟨hh.1, hX j hj hh.2⟩)⟩, h.all, h.asc, h.cn, h.nb⟩
theorem Ix.monoP {p' : Nat} (h : Ix X w base ib bt bs N p S l) (hp : p ≤ p') : Ix X w base ib bt bs N p' S l :=
  ⟨h.ri, h.tb, h.ba, h.nt, h.ns, h.has, h.all, h.asc, Nat.le_trans h.cn hp, by have := h.nb; omega⟩
theorem Ix.lt (h : Ix X w base ib bt bs N p S l) {k : Nat} (hk : DI ib bt bs k) : base ≤ k ∧ k < w.heap.size := by
  rcases hk with rfl | rfl | rfl
  · exact ⟨h.ba, h.ri.lt⟩
  · exact ⟨h.tb.bt_, h.tb.lts.1⟩
  · exact ⟨h.tb.bs_, h.tb.lts.2⟩
theorem Ix.cs (h : Ix X w base ib bt bs N p S l) {e : En} (he : e ∈ l) : ∃ cs, Slo.Has S e.d cs ∧ EnP (fun j => ¬ DI ib bt bs j ∧ X j) w cs e := by
  obtain ⟨cs, hc⟩ := h.all e he
  obtain ⟨e', h1, h2, h3⟩ := h.has _ _ hc
  rw [asc_uniq h.asc h1 he h2] at h3
  exact ⟨cs, hc, h3⟩
theorem Ix.dl (h : Ix X w base ib bt bs N p S l) {e : En} (he : e ∈ l) : e.d.length = 32 := by
  obtain ⟨cs, _, h1⟩ := h.cs he
  exact h1.dl
end
theorem zEc : Z48 = zE.cs none 0 0 := rfl
theorem zEp {P : Nat → Prop} (w : World) : EnP P w (zE.cs none 0 0) zE := ⟨none, 0, 0, rfl, Sl.nil _ _ _, rfl, fun h => absurd rfl h⟩
/-- the table's Get -/
theorem tget_calls {X : Nat → Prop} (base ib bt bs N p : Nat) (S : Slo.SRow) (l : List En) (dg : List UInt8) (w : World) (h : Ix X w base ib bt bs N p S l) (hd : dg.length = 32) :
    Calls Tryz.prog 84 #[.pointer (some ⟨bt, 0, none⟩), ofL (dg.map bv)] w fun e w' => Fr (fun _ => False) w w' ∧ ∃ cs, e = .returned (.tuple #[ofL cs, .bool (getE dg l).2]) ∧ EnP (fun j => ¬ DI ib bt bs j ∧ X j) w' cs (getE dg l).1 := by
  refine (Slo.get_calls base bt bs N S dg w h.tb hd).mono ?_
  rintro r w' ⟨f, hr⟩
  refine ⟨f, ?_⟩
  rcases hr with ⟨cs, hh, rfl⟩ | ⟨hh, rfl⟩
  · obtain ⟨e, he, hed, hp⟩ := h.has _ _ hh
    rw [getE_of h.asc he hed]
    exact ⟨cs, rfl, hp.fr0 f⟩
  · have : getE dg l = (zE, false) := getE_none (fun x hx hxd => by
      obtain ⟨cs, hc⟩ := h.all x hx
      rw [hxd] at hc
      exact hh cs hc)
    rw [this]
    exact ⟨_, rfl, by rw [zEc]; exact zEp _⟩
/-- the table's Put -/
theorem tputX_calls {X : Nat → Prop} (base ib bt bs N p : Nat) (S : Slo.SRow) (l : List En) (e : En) (cs : List Value) (w : World) (h : Ix X w base ib bt bs N p S l) (he : EnP (fun j => ¬ DI ib bt bs j ∧ X j) w cs e) (hp : p ≤ 34359738368) (hB : base ≤ w.heap.size) :
    Calls Tryz.prog 79 #[.pointer (some ⟨bt, 0, none⟩), ofL (e.d.map bv), ofL cs] w fun r w' => r = .returned (.tuple #[]) ∧ Fr (fun j => j = bt ∨ j = bs) w w' ∧ ∃ bs' N' p' S', Ix X w' base ib bt bs' N' p' S' (setE e l) ∧ (bs' = bs ∨ w.heap.size ≤ bs') ∧ p' ≤ p + 1 ∧ ((∃ y ∈ l, y.d = e.d) → p' = p) := by
  refine (Slo.tput_calls' base bt bs N S e.d cs w h.tb he.dl he.len he.one (by have := h.nb; omega) hB).mono ?_
  rintro r w' ⟨rfl, f, bs', N', S', hbs, ha⟩
  have hib := h.ri.lt
  have hold : ∀ k c, Slo.Has S k c → k ≠ e.d → ∃ y ∈ setE e l, y.d = k ∧ EnP (fun j => ¬ DI ib bt bs' j ∧ X j) w' c y := fun k c hk hne => by
    obtain ⟨y, h1, h2, h3⟩ := h.has k c hk
    refine ⟨y, setE_keep e l y h1 (by rw [h2]; exact hne), h2, ?_⟩
    refine ((h3.mono (P' := fun j => (¬ DI ib bt bs j ∧ X j) ∧ j < w.heap.size) (fun j hj hh => ⟨hh, hj⟩)).fr f (fun j hj hD => hj.1.1 (.inr hD))).mono (fun j _ hj => ⟨fun hD => ?_, hj.1.2⟩)
    rcases hD with hD | hD | hD
    · exact hj.1.1 (.inl hD)
    · exact hj.1.1 (.inr (.inl hD))
    · rcases hbs with hb | hb
      · exact hj.1.1 (.inr (.inr (hD.trans hb)))
      · have := hj.2; omega
  have hnew : EnP (fun j => ¬ DI ib bt bs' j ∧ X j) w' cs e := by
    refine ((he.mono (P' := fun j => (¬ DI ib bt bs j ∧ X j) ∧ j < w.heap.size) (fun j hj hh => ⟨hh, hj⟩)).fr f (fun j hj hD => hj.1.1 (.inr hD))).mono (fun j _ hj => ⟨fun hD => ?_, hj.1.2⟩)
    rcases hD with hD | hD | hD
    · exact hj.1.1 (.inl hD)
    · exact hj.1.1 (.inr (.inl hD))
    · rcases hbs with hb | hb
      · exact hj.1.1 (.inr (.inr (hD.trans hb)))
      · have := hj.2; omega
  have mk : ∀ p', Slo.cntF S' ≤ p' → N' ≤ 8 + 4 * p' → Ix X w' base ib bt bs' N' p' S' (setE e l) := fun p' hc hn =>
    ⟨h.ri.fr f (fun hD => hD.elim h.nt h.ns), ha.tab, h.ba, h.nt, by
      rcases hbs with hb | hb
      · rw [hb]; exact h.ns
      · omega, fun k c hk => by
        have := (ha.has k c).1 hk
        split at this
        · rename_i hke
          rw [this, hke]
          exact ⟨e, setE_mem_self e l, rfl, hnew⟩
        · exact hold k c this (by assumption), fun y hy => by
        rcases setE_only h.asc hy with rfl | ⟨hy, hne⟩
        · exact ⟨cs, (ha.has _ _).2 (by rw [if_pos rfl])⟩
        · obtain ⟨c, hc⟩ := h.all y hy
          exact ⟨c, (ha.has _ _).2 (by rw [if_neg hne]; exact hc)⟩, setE_asc e h.asc, hc, hn⟩
  have hcn := h.cn
  have hnb := h.nb
  refine ⟨rfl, f, bs', N', ?_⟩
  rcases ha.cnt with ⟨_, h2, h3⟩ | ⟨h1, h2, h3⟩
  · exact ⟨p, S', mk p (by omega) (by omega), hbs, by omega, fun _ => rfl⟩
  · refine ⟨p + 1, S', mk (p + 1) (by omega) (by rw [h3]; split <;> omega), hbs, by omega, fun ⟨y, hy, hyd⟩ => ?_⟩
    obtain ⟨c, hc⟩ := h.all y hy
    rw [hyd] at hc
    exact absurd hc (h1 c)
set_option maxRecDepth 10000 in
theorem freshE_calls {P : Nat → Prop} (e : En) (x0 : List Value) (w : World) (h : EnP P w x0 e) (hn : e.l.length ≤ 4294967296) :
    Calls Tryz.prog 80 #[ofL x0] w fun r w' => Fr (fun _ => False) w w' ∧ ∃ cs, r = .returned (ofL cs) ∧ EnP (fun k => w.heap.size ≤ k) w' cs e := by
  refine (F80.of x0 w (Q := fun v w' => Fr (fun _ => False) w w' ∧ ∃ cs, v = ofL cs ∧ EnP (fun k => w.heap.size ≤ k) w' cs e) ?_).mono (fun e w' ⟨v, he, hf, cs, hv, h⟩ => ⟨hf, cs, by rw [he, hv], h⟩)
  obtain ⟨A, n, c, rfl, hs, hd, _⟩ := h
  have hl := sl_n hs
  refine nw2 (fun b1 b5 u f r1 r5 hb1w hb5w n15 => ?_)
  have r1' : RecAt u b1 _ ([] ++ (e.d.map bv ++ [.int .i64 e.k, .int .i64 e.z, .int .i64 e.s, .int .i64 e.o, .int .i64 e.q, .slice A n c])) := r1
  have hb1 := r1.lt
  have hb5 := r5.lt
  refine ⟨A, n, c, rec_end r1' (bvl hd) (j := 5) rfl rfl, (clI_calls A n c e.l u (sl_fr hs f) (by omega)).mono ?_⟩
  rintro r v ⟨g, A', c', rfl, hr⟩
  refine ⟨_, _, _, rfl, ?_⟩
  have r1v := r1.fr g (fun h => h)
  refine r1v.st_mk (o := 0 + 37) (by simp [En.cs, hd]) (fun v hv => by simp at hv; subst hv; rfl) (fun r f1 => ?_)
  have hsp := En.splice_l e A A' n n c c' e.l hd
  have r : RecAt (stB v b1 (0 + 37) [Value.slice A' n c']) b1 48 (e.cs A' n c') := by rw [← hsp]; exact r
  generalize stB v b1 (0 + 37) [Value.slice A' n c'] = v2 at r f1 ⊢
  refine ⟨_, by simp [En.cs, hd], rec_all r, gd_mk (by simp [En.cs, hd]) ?_⟩
  have r5v := (r5.fr g (fun h => h)).fr f1 (fun h => n15 h.symm)
  have hr2 := f1.row hr (fun k hk h' => by have := (hr.blt hk).1; omega)
  exact st_all r5v z28 (by simp [En.cs, hd]) (e.one A' _ c') (fun w' f5 r5' => ⟨fr_own (fr_own (f.trans1 g) f1 hb1w) f5 hb5w, _, rfl, A', _, c', rfl, sl_fr1 hr2 f5 hb5, hd, fun _ k hk => Nat.le_trans f.size (hr.blt hk).1⟩)
set_option maxRecDepth 10000 in
theorem newX_calls {X P : Nat → Prop} (A : Option Addr) (n c : Nat) (l : List En) (w : World) (h : RE P w A n l) (hn : n ≤ 1000000000) (hb : BdE 4294967296 l) (hX : ∀ k, w.heap.size ≤ k → X k) :
    Calls Tryz.prog 40 #[.slice A n c] w fun e w' => Fr (fun _ => False) w w' ∧ ∃ ib bt bs N p S, e = .returned (.pointer (some ⟨ib, 0, none⟩)) ∧ Ix X w' w.heap.size ib bt bs N p S (newE l) ∧ p ≤ n := by
  refine (F40.of A n c w (Q := fun v w' => Fr (fun _ => False) w w' ∧ ∃ ib bt bs N p S, v = .pointer (some ⟨ib, 0, none⟩) ∧ Ix X w' w.heap.size ib bt bs N p S (newE l) ∧ p ≤ n) ?_).mono (fun e w' ⟨v, he, hf, a, b, c, d, e', g, hv, h⟩ => ⟨hf, a, b, c, d, e', g, by rw [he, hv], h⟩)
  have hl := h.len
  refine (Slo.new_calls w).mono ?_
  rintro r w1 ⟨bt, bs0, rfl, f1, hT, _⟩
  refine ⟨_, rfl, nw_mk ?_⟩
  rw [List.append_nil]
  have f2 : Fr (fun _ => False) w1 (w1.alloc (.cells [Value.pointer (some ⟨bt, 0, none⟩)].toArray 129)) := Fr.alloc _ _ _
  have r2 := RecAt.new w1 [Value.pointer (some ⟨bt, 0, none⟩)] 129
  have hs1 := f1.size
  have hlt := hT.lts
  have hT2 := hT.off f2 (fun h => h) (fun h => h)
  generalize w1.alloc (.cells [Value.pointer (some ⟨bt, 0, none⟩)].toArray 129) = w2 at f2 r2 hT2 ⊢
  have f12 := f1.trans1 f2
  have no0 : ∀ k cs, ¬ Slo.Has (Slo.row0 8) k cs := fun k cs ⟨q, hq⟩ => Slo.row0_no 8 q k cs hq
  have I0 : Ix X w2 w.heap.size w1.heap.size bt bs0 8 0 (Slo.row0 8) [] :=
    ⟨r2, hT2, hs1, by omega, by omega, fun k cs hk => absurd hk (no0 k cs), (fun e he => by cases he), List.Pairwise.nil, by rw [Slo.row0, Slo.cntF_none]; exact Nat.le_refl _, by omega⟩
  refine jnC_mk (loop_rule (fun s u => Fr (fun _ => False) w u ∧ ∃ (i : Nat) (bs N p : Nat) (S : Slo.SRow), i ≤ n ∧ p ≤ i ∧ s = ((w1.heap.size, 0), (A, n, c), (n : Int), (i : Int), ()) ∧ Ix X u w.heap.size w1.heap.size bt bs N p S (newE (l.take i)))
    (fun s _ => (n - s.2.2.2.1).toNat) ?_ _ _ ⟨f12, 0, bs0, 8, 0, _, by omega, by omega, rfl, I0⟩)
  rintro s u C ⟨hf, i, bs, N, p, S, hi, hpi, rfl, hI⟩ hC _
  refine vIf_mk (fun hlt => ?_) (fun hge => ?_)
  · have hlt2 : (i : Int) < (n : Int) := of_decide_eq_true hlt
    have gi : l[i]? = some (l[i]'(by omega)) := List.getElem?_eq_getElem (by omega)
    generalize l[i]'(by omega) = x at gi
    refine e_rd (h.fr0 hf) gi (fun b o cs hA hEn hc => ⟨cs, hEn.len, hc, var_mk z28 hEn.len hEn.one (fun b6 u1 g1 r6 => ?_)⟩)
    have g1 := g1.trans1 (Fr.drew _ u1)
    have r6 : RecAt u1.drew _ _ _ := r6
    have hI1 := hI.fr0 g1
    generalize u1.drew = u1 at g1 r6 hI1 ⊢
    refine ⟨_, hI1.ri.cell rfl, x.d.map bv, bvl hEn.dl, e_dig hEn (rec_all r6), cs, hEn.len, rec_all r6, (freshE_calls x cs u1 (hEn.fr0 g1) (hb.at gi)).mono ?_⟩
    rintro r u2 ⟨g2, cs2, rfl, hE2⟩
    have g12 := g1.trans1 g2
    have hI2 := hI1.fr0 g2
    refine ⟨_, rfl, kp_mk g2 r6.lt (fun h => h) (kp_mk g2 hI1.ri.lt (fun h => h) ?_)⟩
    have hsx := (hf.trans1 g1).size
    refine (tputX_calls w.heap.size w1.heap.size bt bs N p S _ x cs2 u2 hI2 (hE2.mono (fun k _ hk => ⟨fun h' => by have := (hI1.lt h').2; omega, hX k (by omega)⟩)) (by omega) (hf.trans1 g12).size).mono ?_
    rintro r u3 ⟨rfl, g3, bs3, N3, p3, S3, h3, _, hp3, _⟩
    rw [← newE_step gi] at h3
    refine ⟨rfl, jnC_mk (hC _ _ ⟨(hf.trans1 g12).trans g3 (fun _ _ h => h) (fun k hk h' => by have := (hI2.lt (.inr h')).1; omega), i + 1, bs3, N3, p3, S3, by omega, by omega, by rw [ei i (by omega)], h3⟩ ?_)⟩
    show ((n : Int) - IntKind.wrap .i64 ((i : Int) + 1)).toNat < ((n : Int) - (i : Int)).toNat
    rw [ei i (by omega)]; omega
  · have hge2 : ¬ (i : Int) < (n : Int) := of_decide_eq_false hge
    rw [List.take_of_length_le (by omega)] at hI
    exact ⟨hf, _, bt, bs, N, p, S, rfl, hI, by omega⟩
end Go.Proofs.YthcclmlbkfadcaaGreat
/- an index: Get, Apply, Row -/
namespace Go.Proofs.YthcclmlbkfadcaaGreat
open Go.GV Go.RowKit Go.Lib
set_option linter.unusedVariables false
set_option linter.unusedSimpArgs false
/-- a variable of k cells gets its cells -/
theorem var_k {w : World} {t : TypeId} {z cs : List Value} {k : Nat} {K : Nat → World → Prop} (hz : z.length = k) (hl : cs.length = k) (h1 : ∀ v ∈ cs, v.oneCell' = true)
    (hK : ∀ b u, Fr (fun _ => False) w u → RecAt u b t cs → w.heap.size ≤ b → K b u) : nw w z t fun b w' => gd (cs.length == k) (st w' b 0 cs fun w'' => K b w'') := by
  refine nw_mk (gd_mk (by rw [hl]; simp) ?_)
  have f1 : Fr (fun _ => False) w (w.alloc (.cells z.toArray t)) := Fr.alloc _ _ _
  refine (RecAt.new w z t).st_mk (o := 0) (by omega) h1 (fun r f => ?_)
  rw [splice_full (by omega)] at r
  exact hK _ _ (f1.trans f (fun _ _ h => h) (fun k hk h' => by omega)) r (Nat.le_refl _)
set_option maxRecDepth 10000 in
theorem getX_calls {X : Nat → Prop} (base ib bt bs N p : Nat) (S : Slo.SRow) (l : List En) (dg : List UInt8) (w : World) (h : Ix X w base ib bt bs N p S l) (hd : dg.length = 32) (hb : BdE 4294967296 l) :
    Calls Tryz.prog 58 #[.pointer (some ⟨ib, 0, none⟩), ofL (dg.map bv)] w fun e w' => Fr (fun _ => False) w w' ∧ ∃ cs, e = .returned (.tuple #[ofL cs, .bool (getE dg l).2]) ∧ EnP (fun k => w.heap.size ≤ k) w' cs (getE dg l).1 := by
  refine (F58.of (some ⟨ib, 0, none⟩) (dg.map bv) w (Q := fun v w' => Fr (fun _ => False) w w' ∧ ∃ cs, v = .tuple #[ofL cs, .bool (getE dg l).2] ∧ EnP (fun k => w.heap.size ≤ k) w' cs (getE dg l).1) ?_).mono (fun e w' ⟨v, he, hf, cs, hv, h⟩ => ⟨hf, cs, by rw [he, hv], h⟩)
  have hbg := hb.get dg
  refine nw2 (fun b1 b3 u f r1 r3 hb1w hb3w n13 => vIf_f rfl ?_)
  have f := f.trans1 (Fr.drew _ u)
  have r1 : RecAt u.drew _ _ _ := r1
  have r3 : RecAt u.drew _ _ _ := r3
  have hI := h.fr0 f
  generalize u.drew = u at f r1 r3 hI ⊢
  have hb1 := r1.lt
  have hib := hI.ri.lt
  have r1' : RecAt u b1 33 ([] ++ (dg.map bv ++ [])) := by simpa using r1
  -- the copy is made, and answered
  have fin : ∀ (v : World) (cs : List Value), Fr (fun _ => False) u v → EnP (fun j => ¬ DI ib bt bs j ∧ X j) v cs (getE dg l).1 → 
      Calls Tryz.prog 80 #[ofL cs] v fun e20 w19 => ∃ a21 : List Value, e20 = .returned (ofL a21) ∧ (gd (a21.length == 38) <| st w19 b3 0 a21 fun w22 => ldA 38 w22 b3 0 fun a23 => Fr (fun _ => False) w w22 ∧ ∃ cs, Value.tuple #[ofL a23, Value.bool (getE dg l).2] = .tuple #[ofL cs, .bool (getE dg l).2] ∧ EnP (fun k => w.heap.size ≤ k) w22 cs (getE dg l).1) := by
    intro v cs g hE
    refine (freshE_calls _ cs v hE hbg).mono ?_
    rintro r v2 ⟨g2, cs2, rfl, hE2⟩
    have hs := (f.trans1 g).size
    refine ⟨_, rfl, gd_mk (by rw [hE2.len]; rfl) (st_all (r3.fr (g.trans1 g2) (fun h => h)) z28 hE2.len hE2.one (fun w4 f4 r4 => ⟨fr_own ((f.trans1 g).trans1 g2) f4 hb3w, _, rfl, ?_⟩))⟩
    have hb3v := (r3.fr g (fun h => h)).lt
    exact (hE2.fr f4 (fun k hk h' => by omega)).mono (fun k _ hk => by omega)
  refine dr_mk ⟨_, hI.ri.cell rfl, dg.map bv, bvl hd, rec_all r1, ?_, ?_⟩
  · refine (tget_calls base ib bt bs N p S l dg u hI hd).mono ?_
    rintro r u2 ⟨g2, cs, rfl, hE⟩
    refine ⟨_, _, rfl, nw_mk ?_⟩
    have g3 : Fr (fun _ => False) u2 (u2.alloc (.cells Z48.toArray 48)) := Fr.alloc _ _ _
    have r15 := RecAt.new u2 Z48 48
    have g23 := g2.trans1 g3
    generalize hb15 : u2.heap.size = b15 at r15 ⊢
    generalize u2.alloc (.cells Z48.toArray 48) = u3 at g3 r15 g23 ⊢
    refine kp_mk g23 hb1 (fun h => h) (kp_mk g23 hib (fun h => h) (gd_mk (by rw [hE.len]; rfl) (st_all r15 z28 hE.len hE.one (fun u4 g4 r4 => ?_))))
    have g34 : Fr (fun _ => False) u2 u4 := g3.trans g4 (fun _ _ h => h) (fun k hk h' => by omega)
    exact fin u4 _ (g2.trans1 g34) (hE.fr0 g34)
  · refine nw_mk ?_
    have g3 : Fr (fun _ => False) u (u.alloc (.cells Z48.toArray 48)) := Fr.alloc _ _ _
    have r15 := RecAt.new u Z48 48
    have hI3 := (hI.monoX (X' := fun k => X k ∧ k < u.heap.size) (fun k hk h => ⟨h, hk⟩)).fr0 g3
    generalize hb15 : u.heap.size = b15 at r15 hI3 ⊢
    generalize u.alloc (.cells Z48.toArray 48) = u3 at g3 r15 hI3 ⊢
    refine kp_mk g3 hb1 (fun h => h) (kp_mk g3 hib (fun h => h) ((tget_calls base ib bt bs N p S l dg u3 hI3 hd).mono ?_))
    rintro r u2 ⟨g2, cs, rfl, hE⟩
    refine ⟨_, _, rfl, gd_mk (by rw [hE.len]; rfl) (st_all (r15.fr g2 (fun h => h)) z28 hE.len hE.one (fun u4 g4 r4 => ?_))⟩
    have hl15 := r15.lt
    have g34 : Fr (fun _ => False) u u4 := (g3.trans1 g2).trans g4 (fun _ _ h => h) (fun k hk h' => by omega)
    exact fin u4 _ g34 ((hE.fr g4 (fun k hk h' => by have := hk.2.2; omega)).mono (fun k _ hk => ⟨hk.1, hk.2.1⟩))
/-- what is behind Apply -/
theorem applyX_calls {X : Nat → Prop} (base ib bt bs N p : Nat) (S : Slo.SRow) (l : List En) (x : Wd) (w : World) (h : Ix X w base ib bt bs N p S l) (hx : x.d.length = 32) (hb : BdE 4294967296 l) (hp : p ≤ 34359738368) (hB : base ≤ w.heap.size) (hX : ∀ k, w.heap.size ≤ k → X k) :
    Calls Tryz.prog 43 #[.pointer (some ⟨ib, 0, none⟩), ofL x.cs] w fun e w' => e = .returned (.tuple #[]) ∧ Fr (DI ib bt bs) w w' ∧ ∃ bs' N' S', Ix X w' base ib bt bs' N' (p + 1) S' (applyE l x) ∧ (bs' = bs ∨ w.heap.size ≤ bs') := by
  refine (F43.of (some ⟨ib, 0, none⟩) x.cs w (Q := fun v w' => v = .tuple #[] ∧ Fr (DI ib bt bs) w w' ∧ ∃ bs' N' S', Ix X w' base ib bt bs' N' (p + 1) S' (applyE l x) ∧ (bs' = bs ∨ w.heap.size ≤ bs')) ?_).mono (fun e w' ⟨v, he, hv, h⟩ => ⟨by rw [he, hv], h⟩)
  have hbg := hb.get x.d
  refine nw_mk (vIf_f rfl ?_)
  have f : Fr (fun _ => False) w (w.alloc (.cells x.cs.toArray 37)).drew := (Fr.alloc _ _ _).trans1 (Fr.drew _ _)
  have r1 : RecAt (w.alloc (.cells x.cs.toArray 37)).drew w.heap.size 37 ([.int .i64 x.k, .int .u64 x.sq] ++ (x.d.map bv ++ [.string x.nm, .int .i64 x.z, .int .i64 x.s, .int .i64 x.o, .int .i64 x.q])) := RecAt.new w _ _
  have hI := h.fr0 f
  have hltw := fun k hk => h.lt (k := k) hk
  generalize (w.alloc (.cells x.cs.toArray 37)).drew = u at f r1 hI ⊢
  generalize hb1 : w.heap.size = b1 at *
  have hb1l := r1.lt
  have hib := hI.ri.lt
  have xl : x.cs.length = 39 := by simp [Wd.cs, hx]
  -- the word's kind decides
  have fin : ∀ (v : World) (b : Nat) (cs : List Value), Fr (fun _ => False) u v → RecAt v b 48 cs → EnP (fun j => ¬ DI ib bt bs j ∧ X j) v cs (getE x.d l).1 → Ix X v base ib bt bs N p S l → b1 < b →
      ldI .i64 v b1 0 fun i14 => vIf (i14 == 1) (jnC (F43.k6 (fun v w' => v = .tuple #[] ∧ Fr (DI ib bt bs) w w' ∧ ∃ bs' N' S', Ix X w' base ib bt bs' N' (p + 1) S' (applyE l x) ∧ (bs' = bs ∨ b1 ≤ bs'))) (some ⟨ib, 0, none⟩, (b1, 0), (b, 0), (getE x.d l).2, (i14), (i14 == 1), ()) v)
        (jnC (F43.k6 (fun v w' => v = .tuple #[] ∧ Fr (DI ib bt bs) w w' ∧ ∃ bs' N' S', Ix X w' base ib bt bs' N' (p + 1) S' (applyE l x) ∧ (bs' = bs ∨ b1 ≤ bs'))) (some ⟨ib, 0, none⟩, (b1, 0), (b, 0), (getE x.d l).2, (i14), (i14 == 2), ()) v) := by
    intro v b cs g rb hE hIv hbb
    have r1v := r1.fr g (fun h => h)
    have hs := g.size
    have hs0 := f.size
    have put : ∀ (bb : Bool), bb = decide (x.k = 1 ∨ x.k = 2) → jnC (F43.k6 (fun v w' => v = .tuple #[] ∧ Fr (DI ib bt bs) w w' ∧ ∃ bs' N' S', Ix X w' base ib bt bs' N' (p + 1) S' (applyE l x) ∧ (bs' = bs ∨ b1 ≤ bs'))) (some ⟨ib, 0, none⟩, (b1, 0), (b, 0), (getE x.d l).2, x.k, bb, ()) v := by
      intro bb hbb
      refine jnC_mk (fun _ => ?_)
      refine vIf_mk (fun h1 => ?_) (fun h1 => vIf_mk (fun h5 => vIf_mk (fun hin => ?_) (fun hin => ?_)) (fun h5 => ?_))
      · have hk : x.k = 1 ∨ x.k = 2 := by
          have h1 : bb = true := h1
          rw [h1] at hbb; exact of_decide_eq_true hbb.symm
        have ha : applyE l x = setE (putE (getE x.d l).1 x) l := if_pos hk
        have gd1 : Fr (fun _ => False) v v.drew := Fr.drew _ _
        have hIv := hIv.fr0 gd1
        have hE := hE.fr0 gd1
        have r1v : RecAt v.drew _ _ _ := r1v
        have rb : RecAt v.drew _ _ _ := rb
        have g := g.trans1 gd1
        generalize v.drew = v at gd1 hIv hE r1v rb g ⊢
        have hs := g.size
        refine dr_mk ⟨_, hIv.ri.cell rfl, x.d.map bv, bvl hx, rec_mid r1v, cs, hE.len, rec_all rb, x.cs, xl, rec_all r1v, (put_calls (getE x.d l).1 x cs v hE.at hx hbg).mono ?_⟩
        rintro r v2 ⟨g2, cs2, rfl, hE2⟩
        have hI2 := hIv.fr0 g2
        refine ⟨_, rfl, kp_mk g2 r1v.lt (fun h => h) (kp_mk g2 hIv.ri.lt (fun h => h) ?_)⟩
        refine (tputX_calls base ib bt bs N p S l (putE (getE x.d l).1 x) cs2 v2 hI2 (hE2.mono (fun k _ hk => ⟨fun h' => by have := (hIv.lt h').2; omega, hX k (by omega)⟩)) hp (by have := g2.size; omega)).mono ?_
        rintro r v3 ⟨rfl, g3, bs3, N3, p3, S3, h3, hbs, hp3, _⟩
        rw [← ha] at h3
        have hs2 := g2.size
        refine ⟨rfl, rfl, ?_, bs3, N3, S3, h3.monoP hp3, hbs.imp id (fun hh => by omega)⟩
        exact ((f.trans1 (g.trans1 g2)).mono (fun _ _ h => h.elim)).trans1 (g3.mono (fun k _ hk => .inr hk))
      · have h1 : bb = false := h1
        rw [h1] at hbb
        have hk := of_decide_eq_false hbb.symm
        have h5 : x.k = 5 := by simpa using h5
        have ha : applyE l x = setE (delE (getE x.d l).1 x) l := by unfold applyE; rw [if_neg hk, if_pos ⟨h5, hin⟩]
        have hdd : (delE (getE x.d l).1 x).d = x.d := (getE_mem hin).2
        have gd1 : Fr (fun _ => False) v v.drew := Fr.drew _ _
        have hIv := hIv.fr0 gd1
        have hE := hE.fr0 gd1
        have r1v : RecAt v.drew _ _ _ := r1v
        have rb : RecAt v.drew _ _ _ := rb
        have g := g.trans1 gd1
        generalize v.drew = v at gd1 hIv hE r1v rb g ⊢
        have hs := g.size
        refine dr_mk ⟨_, hIv.ri.cell rfl, x.d.map bv, bvl hx, rec_mid r1v, cs, hE.len, rec_all rb, x.cs, xl, rec_all r1v, (del_calls (getE x.d l).1 x cs v hE.at hx hbg).mono ?_⟩
        rintro r v2 ⟨g2, cs2, rfl, hE2⟩
        have hI2 := hIv.fr0 g2
        refine ⟨_, rfl, kp_mk g2 r1v.lt (fun h => h) (kp_mk g2 hIv.ri.lt (fun h => h) ?_)⟩
        have tp := tputX_calls base ib bt bs N p S l (delE (getE x.d l).1 x) cs2 v2 hI2 (hE2.mono (fun k _ hk => ⟨fun h' => by have := (hIv.lt h').2; omega, hX k (by omega)⟩)) hp (by have := g2.size; omega)
        rw [hdd] at tp
        refine tp.mono ?_
        rintro r v3 ⟨rfl, g3, bs3, N3, p3, S3, h3, hbs, hp3, _⟩
        rw [← ha] at h3
        have hs2 := g2.size
        refine ⟨rfl, rfl, ?_, bs3, N3, S3, h3.monoP hp3, hbs.imp id (fun hh => by omega)⟩
        exact ((f.trans1 (g.trans1 g2)).mono (fun _ _ h => h.elim)).trans1 (g3.mono (fun k _ hk => .inr hk))
      · have h1 : bb = false := h1
        rw [h1] at hbb
        have hk := of_decide_eq_false hbb.symm
        have hin : (getE x.d l).2 = false := hin
        have ha : applyE l x = l := by unfold applyE; rw [if_neg hk, if_neg (fun h => by rw [hin] at h; cases h.2)]
        rw [ha]
        exact ⟨rfl, (f.trans1 g).mono (fun _ _ h => h.elim), bs, N, S, hIv.monoP (by omega), .inl rfl⟩
      · have h1 : bb = false := h1
        rw [h1] at hbb
        have hk := of_decide_eq_false hbb.symm
        have h5 : x.k ≠ 5 := by simpa using h5
        have ha : applyE l x = l := by unfold applyE; rw [if_neg hk, if_neg (fun h => h5 h.1)]
        rw [ha]
        exact ⟨rfl, (f.trans1 g).mono (fun _ _ h => h.elim), bs, N, S, hIv.monoP (by omega), .inl rfl⟩
    refine ⟨x.k, r1v.cell rfl, vIf_mk (fun h1 => put _ ?_) (fun h1 => put _ ?_)⟩
    · rw [h1, decide_eq_true]
      exact .inl (by simpa using h1)
    · have h1 : x.k ≠ 1 := by simpa using h1
      rw [Bool.eq_iff_iff, decide_eq_true_iff]
      simp [h1]
  refine dr_mk ⟨_, hI.ri.cell rfl, x.d.map bv, bvl hx, rec_mid r1, ?_, ?_⟩
  · refine (tget_calls base ib bt bs N p S l x.d u hI hx).mono ?_
    rintro r u2 ⟨g2, cs, rfl, hE⟩
    refine ⟨_, _, rfl, nw_mk ?_⟩
    have g3 : Fr (fun _ => False) u2 (u2.alloc (.cells Z48.toArray 48)) := Fr.alloc _ _ _
    have r15 := RecAt.new u2 Z48 48
    have g23 := g2.trans1 g3
    have hs2 := g2.size
    generalize hb15 : u2.heap.size = b15 at r15 hs2 ⊢
    generalize u2.alloc (.cells Z48.toArray 48) = u3 at g3 r15 g23 ⊢
    refine kp_mk g23 hb1l (fun h => h) (kp_mk g23 hib (fun h => h) (gd_mk (by rw [hE.len]; rfl) (r15.st_mk (o := 0) (by rw [hE.len]; exact Nat.le_refl _) hE.one (fun r4 g4 => ?_))))
    rw [splice_full (by rw [hE.len]; rfl)] at r4
    have g34 : Fr (fun _ => False) u2 (stB u3 b15 0 cs) := g3.trans g4 (fun _ _ h => h) (fun k hk h' => by omega)
    exact fin _ b15 cs (g2.trans1 g34) r4 (hE.fr0 g34) ((hI.fr0 g2).fr0 g34) (by omega)
  · refine nw_mk ?_
    have g3 : Fr (fun _ => False) u (u.alloc (.cells Z48.toArray 48)) := Fr.alloc _ _ _
    have r15 := RecAt.new u Z48 48
    have hI3 := (hI.monoX (X' := fun k => X k ∧ k < u.heap.size) (fun k hk h => ⟨h, hk⟩)).fr0 g3
    generalize hb15 : u.heap.size = b15 at r15 hI3 hb1l ⊢
    generalize u.alloc (.cells Z48.toArray 48) = u3 at g3 r15 hI3 ⊢
    refine kp_mk g3 (by omega) (fun h => h) (kp_mk g3 hib (fun h => h) ((tget_calls base ib bt bs N p S l x.d u3 hI3 hx).mono ?_))
    rintro r u2 ⟨g2, cs, rfl, hE⟩
    have hl15 := r15.lt
    refine ⟨_, _, rfl, gd_mk (by rw [hE.len]; rfl) ((r15.fr g2 (fun h => h)).st_mk (o := 0) (by rw [hE.len]; exact Nat.le_refl _) hE.one (fun r4 g4 => ?_))⟩
    rw [splice_full (by rw [hE.len]; rfl)] at r4
    have g34 : Fr (fun _ => False) u (stB u2 b15 0 cs) := (g3.trans1 g2).trans g4 (fun _ _ h => h) (fun k hk h' => by omega)
    exact fin _ b15 cs g34 r4 ((hE.fr g4 (fun k hk h' => by have := hk.2.2; omega)).mono (fun k _ hk => ⟨hk.1, hk.2.1⟩)) (hI.fr0 g34) hb1l
end Go.Proofs.YthcclmlbkfadcaaGreat
/- an index: Row, Count, Keep -/
namespace Go.Proofs.YthcclmlbkfadcaaGreat
open Go.GV Go.RowKit Go.Lib
set_option linter.unusedVariables false
set_option linter.unusedSimpArgs false
theorem dig_one (d : List UInt8) : ∀ v ∈ d.map bv, v.oneCell' = true := fun v hv => bvs_one d v hv
theorem dgz : Z33.length = 32 := rfl
theorem Ix.row_eq {X : Nat → Prop} {w : World} {base ib bt bs N p : Nat} {S : Slo.SRow} {l : List En} (h : Ix X w base ib bt bs N p S l) {r : List (List UInt8)} (ha : Dg.Asc r) (hm : ∀ d, d ∈ r ↔ ∃ v, Slo.Has S d v) : r = digsE l := by
  refine asc_ext ha (digsE_asc h.asc) (fun d => ?_)
  rw [hm]
  constructor
  · rintro ⟨cs, hc⟩
    obtain ⟨e, he, hd, _⟩ := h.has d cs hc
    exact List.mem_map.2 ⟨e, he, hd⟩
  · intro hd
    obtain ⟨e, he, rfl⟩ := List.mem_map.1 hd
    exact h.all e he
set_option maxRecDepth 10000 in
theorem rowX_calls {X : Nat → Prop} (base ib bt bs N p : Nat) (S : Slo.SRow) (l : List En) (w : World) (h : Ix X w base ib bt bs N p S l) (hb : BdE 4294967296 l) (hp : p ≤ 100000000) :
    Calls Tryz.prog 46 #[.pointer (some ⟨ib, 0, none⟩)] w fun e w' => Fr (fun _ => False) w w' ∧ ∃ A' c', e = .returned (.slice A' l.length c') ∧ OE (fun k => w.heap.size ≤ k) w' w.heap.size A' l.length c' l ∧ l.length ≤ 8 + 4 * p := by
  refine (F46.of (some ⟨ib, 0, none⟩) w (Q := fun v w' => Fr (fun _ => False) w w' ∧ ∃ A' c', v = .slice A' l.length c' ∧ OE (fun k => w.heap.size ≤ k) w' w.heap.size A' l.length c' l ∧ l.length ≤ 8 + 4 * p) ?_).mono (fun e w' ⟨v, he, hf, a, b, hv, h⟩ => ⟨hf, a, b, by rw [he, hv], h⟩)
  have hnb := h.nb
  refine vIf_f rfl (dr_mk ⟨_, h.ri.cell rfl, (Slo.trow_calls base bt bs N S w h.tb (by omega)).mono ?_⟩)
  rintro r w1 ⟨f1, A0, c0, r', rfl, hr, hw, ha, hl, hm⟩
  have hre := h.row_eq ha hm
  subst hre
  have hll : (digsE l).length = l.length := List.length_map _
  have hs1 := f1.size
  refine ⟨_, _, _, rfl, jnC_mk (loop_rule (fun s u => Fr (fun _ => False) w1 u ∧ ∃ (i : Nat) (A5 : Option Addr) (c5 : Nat), i ≤ l.length ∧ s = (some ⟨ib, 0, none⟩, (), (A5, i, c5), (A0, (digsE l).length, c0), ((digsE l).length : Int), (i : Int), ()) ∧ OE (fun k => w1.heap.size ≤ k) u w1.heap.size A5 i c5 (l.take i))
    (fun s _ => (l.length - s.2.2.2.2.2.1).toNat) ?_ _ _ ⟨Fr.refl _ _, 0, none, 0, by omega, rfl, OE.nil _ _ _⟩)⟩
  rintro s u C ⟨hf, i, A5, c5, hi, rfl, hO⟩ hC _
  refine vIf_mk (fun hlt => ?_) (fun hge => ?_)
  · have hlt2 : (i : Int) < ((digsE l).length : Int) := of_decide_eq_true hlt
    have gi : l[i]? = some (l[i]'(by omega)) := List.getElem?_eq_getElem (by omega)
    generalize l[i]'(by omega) = x at gi
    have gd' : (digsE l)[i]? = some x.d := by unfold digsE; rw [List.getElem?_map, gi]; rfl
    have hxm : x ∈ l := List.mem_of_getElem? gi
    have hxd : x.d.length = 32 := h.dl hxm
    obtain ⟨b, o, hA, hc⟩ := Dg.sl_dig (hf.row hr (fun _ _ h => h)).sl hw (i := i) (by omega)
    subst hA
    refine dr_mk (gd_mk (decide_eq_true (by show (0 : Int) ≤ (i : Int); omega)) (gd_mk hlt ⟨x.d.map bv, bvl hxd, by show cellsAt u b (o + ((i : Int)).toNat * 32) _; rw [Int.toNat_natCast]; exact hc i _ gd', var_k dgz (bvl hxd) (dig_one _) (fun b6 u1 g1 r6 _ => ⟨x.d.map bv, bvl hxd, rec_all r6, ?_⟩)⟩))
    refine (getX_calls base ib bt bs N p S l x.d u1 (h.fr0 ((f1.trans1 hf).trans1 g1)) hxd hb).mono ?_
    rintro r u2 ⟨g2, cs2, rfl, hE2⟩
    rw [getE_of h.asc hxm rfl] at hE2 ⊢
    refine ⟨_, _, rfl, var_k z28 hE2.len hE2.one (fun b7 u3 g3 r7 _ => ⟨cs2, hE2.len, rec_all r7, ?_⟩)⟩
    have g12 := g1.trans1 g2
    have g13 := g12.trans1 g3
    have hO1 := hO.fr0 g1
    have hs := (hf.trans1 g1).size
    refine pushE (hO.fr0 g13) ((hE2.fr0 g3).mono (fun k _ hk => ⟨fun h' => by have := (hO1.blt h').2; omega, by omega⟩)) (hf.trans1 g13).size (by show i ≤ 1073741824; omega) (fun A' c' w' hO' f' hnew => ?_)
    have hsn : l.take (i + 1) = l.take i ++ [x] := by rw [List.take_add_one, gi]; rfl
    refine jnC_mk (hC _ _ ⟨(hf.trans1 g13).trans f' (fun _ _ h => h) (fun k hk h' => by have := (hO.blt h').1; omega), i + 1, A', c', by omega, by rw [ei i (by omega)], by rw [hsn]; exact hO'⟩ ?_)
    show ((l.length : Int) - IntKind.wrap .i64 ((i : Int) + 1)).toNat < ((l.length : Int) - (i : Int)).toNat
    rw [ei i (by omega)]; omega
  · have hge2 : ¬ (i : Int) < ((digsE l).length : Int) := of_decide_eq_false hge
    rw [List.take_of_length_le (by omega)] at hO
    have : i = l.length := by omega
    subst this
    exact ⟨f1.trans1 hf, A5, c5, rfl, hO.mono hs1 (fun k _ hk => by omega), by omega⟩
/-! ### Keep -/
/-- the table on the way: what is kept of the first i, and the others -/
def midE (sg : List Int) (l : List En) (i : Nat) : List En := keepLE sg (l.take i) ++ l.drop i
end Go.Proofs.YthcclmlbkfadcaaGreat
/- an index, by the document: Set, New, Get, Apply, Keep, Count, Same -/
namespace Go.Proofs.YthcclmlbkfadcaaGreat
open Go.GV Go.RowKit Go.Lib
set_option linter.unusedVariables false
set_option linter.unusedSimpArgs false
def SetStE (P : Nat → Prop) (w : World) (cs : List Value) (v : World) (B5 : Option Addr) (k5 : Nat) (o : List En) : Prop := Fr (fun _ => False) w v ∧ RecAt v w.heap.size 48 cs ∧ OE (fun k => P k ∧ k < w.heap.size) v (w.heap.size + 1) B5 o.length k5 o
theorem SetStE.drew {P : Nat → Prop} {w : World} {cs : List Value} {v : World} {B5 : Option Addr} {k5 : Nat} {o : List En} (h : SetStE P w cs v B5 k5 o) : SetStE P w cs v.drew B5 k5 o :=
  ⟨h.1.trans1 (Fr.drew _ _), h.2.1, h.2.2.fr0 (Fr.drew _ _)⟩
theorem SetStE.fr0 {P : Nat → Prop} {w : World} {cs : List Value} {v v' : World} {B5 : Option Addr} {k5 : Nat} {o : List En} (h : SetStE P w cs v B5 k5 o) (f : Fr (fun _ => False) v v') : SetStE P w cs v' B5 k5 o :=
  ⟨h.1.trans1 f, h.2.1.fr f (fun h => h), h.2.2.fr0 f⟩
/-- the document's table: off the blocks D -/
def RDE (D : Nat → Prop) (w : World) (A : Option Addr) (n : Nat) (l : List En) : Prop := RE (fun k => ¬ D k) w A n l ∧ (n ≠ 0 → ∀ k, blkOf A = some k → ¬ D k)
theorem RDE.fr0 {D : Nat → Prop} {w w' : World} {A : Option Addr} {n : Nat} {l : List En} (h : RDE D w A n l) (f : Fr (fun _ => False) w w') : RDE D w' A n l := ⟨h.1.fr0 f, h.2⟩
theorem RE.blt {P : Nat → Prop} {w : World} {A : Option Addr} {n : Nat} {l : List En} (h : RE P w A n l) (h0 : n ≠ 0) {k : Nat} (hk : blkOf A = some k) : k < w.heap.size := by
  obtain ⟨vs, h1, _⟩ := h
  exact h1.blt (by decide) h0 hk
theorem RDE.step {D D' : Nat → Prop} {w w' : World} {A : Option Addr} {n : Nat} {l : List En} (h : RDE D w A n l) (f : Fr D w w') (hD : ∀ k, D' k → D k ∨ w.heap.size ≤ k) : RDE D' w' A n l := by
  have h1 := (h.1.mono (P' := fun k => ¬ D k ∧ k < w.heap.size) (fun k hk h => ⟨h, hk⟩)).fr f (fun k hk => hk.1) h.2
  refine ⟨h1.mono (fun k _ hk h' => ?_), fun h0 k hk h' => ?_⟩
  · rcases hD k h' with h'' | h''
    · exact hk.1 h''
    · have := hk.2; omega
  · have hb := h.1.blt h0 hk
    rcases hD k h' with h'' | h''
    · exact h.2 h0 k hk h''
    · omega
theorem RDE.of {D : Nat → Prop} {w : World} {B : Nat} {A : Option Addr} {n c : Nat} {l : List En} (h : OE (fun k => ¬ D k) w B A n c l) (hD : ∀ k, D k → k < B) : RDE D w A n l :=
  ⟨h.rt, fun _ k hk h' => by have := (h.blt hk).1; have := hD k h'; omega⟩
theorem getE_take {dg : List UInt8} {l : List En} {i : Nat} {x : En} (gi : l[i]? = some x) (h : ∀ y ∈ l.take i, y.d ≠ dg) (hx : x.d = dg) : getE dg l = (x, true) := by
  rw [at_splitE gi]
  exact getE_snoc h hx
set_option maxRecDepth 10000 in
theorem rget_calls {P : Nat → Prop} (A : Option Addr) (n c : Nat) (l : List En) (dg : List UInt8) (w : World) (h : RE P w A n l) (hd : dg.length = 32) (hn : n ≤ 17179869184) :
    Calls Tryz.prog 16 #[.slice A n c, ofL (dg.map bv)] w fun r w' => Fr (fun _ => False) w w' ∧ ∃ cs, r = .returned (.tuple #[ofL cs, .bool (getE dg l).2]) ∧ EnP P w' cs (getE dg l).1 := by
  refine (F16.of A n c (dg.map bv) w (Q := fun v w' => Fr (fun _ => False) w w' ∧ ∃ cs, v = .tuple #[ofL cs, .bool (getE dg l).2] ∧ EnP P w' cs (getE dg l).1) ?_).mono (fun e w' ⟨v, he, hf, cs, hv, h⟩ => ⟨hf, cs, by rw [he, hv], h⟩)
  have hl := h.len
  refine nw2 (fun b1 b3 u f r1 r3 hb1w hb3w n13 => ?_)
  have h := (h.mono (P' := fun k => P k ∧ k < w.heap.size) (fun k hk h => ⟨h, hk⟩)).fr0 f
  refine jnC_mk (loop_rule (fun s v => Fr (fun _ => False) u v ∧ ∃ i : Nat, i ≤ n ∧ s = ((A, n, c), (b1, 0), (b3, 0), (i : Int), ()) ∧ ∀ y ∈ l.take i, y.d ≠ dg)
    (fun s _ => (n - s.2.2.2.1).toNat) ?_ _ _ ⟨Fr.refl _ _, 0, by omega, rfl, by simp⟩)
  rintro s v C ⟨g, i, hi, rfl, hno⟩ hC _
  refine vIf_mk (fun hlt => ?_) (fun hge => ?_)
  · have hlt2 : (i : Int) < (n : Int) := of_decide_eq_true hlt
    have gi : l[i]? = some (l[i]'(by omega)) := List.getElem?_eq_getElem (by omega)
    generalize l[i]'(by omega) = x at gi
    have gd1 := g.trans1 (Fr.drew _ v)
    have hv := h.fr0 gd1
    have q1 := r1.fr gd1 (fun h => h)
    have q3 := r3.fr gd1 (fun h => h)
    generalize v.drew = v at gd1 hv q1 q3 ⊢
    refine e_rd hv gi (fun b o cs hA hT hc => ⟨x.d.map bv, bvl hT.dl, e_dig hT hc, dg.map bv, bvl hd, rec_all q1, x.d, dg, hT.dl, hd, rfl, rfl, vIf_mk (fun he => ?_) (fun he => ?_)⟩)
    · have he : x.d = dg := by simpa using he
      have hg := getE_take gi hno he
      rw [hg]
      refine e_rd hv gi (fun b o cs hA hT hc => ⟨cs, hT.len, hc, gd_mk (by rw [hT.len]; rfl) (st_all q3 z28 hT.len hT.one (fun w4 f4 r4 => ⟨fr_own (f.trans1 gd1) f4 hb3w, _, rfl, ?_⟩))⟩)
      exact (hT.fr f4 (fun k hk h' => by have h' : k = b3 := h'; have := hk.2; omega)).mono (fun k _ hk => hk.1)
    · have he : x.d ≠ dg := by simpa using he
      refine jnC_mk (hC _ _ ⟨gd1, i + 1, by omega, by rw [ei i (by omega)], fun y hy => ?_⟩ ?_)
      · rw [List.take_add_one, gi] at hy
        rcases List.mem_append.1 hy with hy | hy
        · exact hno y hy
        · simp at hy; subst hy; exact he
      · show ((n : Int) - IntKind.wrap .i64 ((i : Int) + 1)).toNat < ((n : Int) - (i : Int)).toNat
        rw [ei i (by omega)]; omega
  · have hge2 : ¬ (i : Int) < (n : Int) := of_decide_eq_false hge
    rw [List.take_of_length_le (by omega)] at hno
    rw [getE_none hno]
    exact gd_mk rfl (st_all (r3.fr g (fun h => h)) z28 rfl (zE.one none 0 0) (fun w4 f4 r4 => ⟨fr_own (f.trans1 g) f4 hb3w, _, rfl, zEp _⟩))
theorem wd_len {x : Wd} (hx : x.d.length = 32) : x.cs.length = 39 := by simp [Wd.cs, hx]
/-! ### the same -/
end Go.Proofs.YthcclmlbkfadcaaGreat
/- names entries, as they lie; Tag, Untag, KeepTag, SameTag -/
namespace Go.Proofs.YthcclmlbkfadcaaGreat.Tg
open Go.GV Go.RowKit Go.Lib
set_option linter.unusedVariables false
set_option linter.unusedSimpArgs false
structure Tn where
  nm : ByteArray
  d : List UInt8
  g : Bool
  s : Int
  o : Int
  q : Int
  l : List Int
def Tn.cs (e : Tn) (A : Option Addr) (n c : Nat) : List Value := [.string e.nm] ++ (e.d.map bv ++ [.bool e.g, .int .i64 e.s, .int .i64 e.o, .int .i64 e.q, .slice A n c])
def TnAt (w : World) (cs : List Value) (e : Tn) : Prop := ∃ A n c, cs = e.cs A n c ∧ Sl w 1 A n (ivs e.l) ∧ e.d.length = 32
/-- .. whose row of numbers, if any, lies in a block of P -/
def TnP (P : Nat → Prop) (w : World) (cs : List Value) (e : Tn) : Prop := ∃ A n c, cs = e.cs A n c ∧ Sl w 1 A n (ivs e.l) ∧ e.d.length = 32 ∧ (n ≠ 0 → ∀ k, blkOf A = some k → P k)
theorem TnP.at {P : Nat → Prop} {w : World} {cs : List Value} {e : Tn} (h : TnP P w cs e) : TnAt w cs e := by
  obtain ⟨A, n, c, h1, h2, h3, _⟩ := h
  exact ⟨A, n, c, h1, h2, h3⟩
theorem TnAt.fr {w w' : World} {cs : List Value} {e : Tn} (h : TnAt w cs e) (f : Fr (fun _ => False) w w') : TnAt w' cs e := by
  obtain ⟨A, n, c, h1, h2, h3⟩ := h
  exact ⟨A, n, c, h1, f.sl h2 (fun _ _ _ h => h), h3⟩
theorem TnAt.len {w : World} {cs : List Value} {e : Tn} (h : TnAt w cs e) : cs.length = 38 := by
  obtain ⟨A, n, c, h1, h2, h3⟩ := h
  rw [h1]; simp [Tn.cs, h3]
theorem Tn.one (e : Tn) (A : Option Addr) (n c : Nat) : ∀ v ∈ e.cs A n c, v.oneCell' = true := by
  intro v hv
  rcases List.mem_append.1 hv with h | h
  · simp at h; subst h; rfl
  rcases List.mem_append.1 h with h | h
  · exact bvs_one _ v h
  · simp at h; rcases h with rfl | rfl | rfl | rfl | rfl <;> rfl
theorem TnAt.one {w : World} {cs : List Value} {e : Tn} (h : TnAt w cs e) : ∀ v ∈ cs, v.oneCell' = true := by
  obtain ⟨A, n, c, rfl, _⟩ := h
  exact e.one A n c
def tagE (e : Tn) (x : Wd) : Tn := ⟨x.nm, x.d, false, x.s, x.o, x.q, norm (e.l ++ [x.s])⟩
def untE (e : Tn) (x : Wd) : Tn := ⟨e.nm, List.replicate 32 0, true, x.s, x.o, x.q, norm e.l⟩
theorem z35 : Z53.length = 38 := rfl
set_option maxHeartbeats 1000000 in
theorem tag_calls (e : Tn) (x : Wd) (x0 : List Value) (w : World) (h : TnAt w x0 e) (hx : x.d.length = 32) (hn : e.l.length ≤ 4294967296) :
    Calls Tryz.prog 87 #[ofL x0, ofL x.cs] w fun r w' => Fr (fun _ => False) w w' ∧ ∃ cs, r = .returned (ofL cs) ∧ TnP (fun k => w.heap.size ≤ k) w' cs (tagE e x) := by
  refine (F87.of x0 x.cs w (Q := fun v w' => Fr (fun _ => False) w w' ∧ ∃ cs, v = ofL cs ∧ TnP (fun k => w.heap.size ≤ k) w' cs (tagE e x)) ?_).mono (fun e w' ⟨v, he, hf, cs, hv, h⟩ => ⟨hf, cs, by rw [he, hv], h⟩)
  obtain ⟨A, n, c, rfl, hs, hd⟩ := h
  have hl := sl_n hs
  refine nw3 (fun b1 b3 b5 u f r1 r3 r5 hb5 n15 n35 => ?_)
  have f := f.trans1 (Fr.drew _ u)
  have r1 : RecAt u.drew b1 _ ([.string e.nm] ++ (e.d.map bv ++ [.bool e.g, .int .i64 e.s, .int .i64 e.o, .int .i64 e.q, .slice A n c])) := r1
  have r3 : RecAt u.drew b3 _ ([.int .i64 x.k, .int .u64 x.sq] ++ (x.d.map bv ++ [.string x.nm, .int .i64 x.z, .int .i64 x.s, .int .i64 x.o, .int .i64 x.q])) := r3
  have r5 : RecAt u.drew b5 _ _ := r5
  generalize u.drew = u at f r1 r3 r5 ⊢
  have hb1 := r1.lt
  have hb3 := r3.lt
  refine ⟨x.nm, rec_end r3 (bvl hx) (j := 0) rfl rfl, x.d.map bv, bvl hx, rec_mid r3, [.int .i64 x.s, .int .i64 x.o, .int .i64 x.q], rfl, rec_loc r3 (bvl hx) (j := 2) rfl rfl rfl rfl, A, n, c, rec_end r1 (bvl hd) (j := 4) rfl rfl, x.s, rec_end r3 (bvl hx) (j := 2) rfl rfl, ?_⟩
  refine nw_mk (cs := [Value.int .i64 x.s]) ?_
  have f2 : Fr (fun _ => False) u (u.alloc (.cells [Value.int .i64 x.s].toArray 3)) := Fr.alloc _ _ _
  have q2 := RecAt.new u [Value.int .i64 x.s] 3
  generalize u.alloc (.cells [Value.int .i64 x.s].toArray 3) = u2 at f2 q2 ⊢
  refine kp_mk f2 hb1 (fun h => h) (kp_mk f2 hb3 (fun h => h) (kp_mk f2 hb3 (fun h => h) (kp_mk f2 hb3 (fun h => h) (nw_mk (cs := [Value.slice A n c, .slice (some ⟨u.heap.size, 0, none⟩) 1 1]) ?_))))
  have f3 : Fr (fun _ => False) u2 (u2.alloc (.cells [Value.slice A n c, .slice (some ⟨u.heap.size, 0, none⟩) 1 1].toArray 46)) := Fr.alloc _ _ _
  have q3 := RecAt.new u2 [Value.slice A n c, .slice (some ⟨u.heap.size, 0, none⟩) 1 1] 46
  generalize u2.alloc (.cells [Value.slice A n c, .slice (some ⟨u.heap.size, 0, none⟩) 1 1].toArray 46) = u3 at f3 q3 ⊢
  have g3 := f2.trans1 f3
  refine kp_mk g3 hb3 (fun h => h) (kp_mk g3 hb3 (fun h => h) (kp_mk g3 hb3 (fun h => h) (?_)))
  refine (row2_calls A n c e.l _ x.s _ u3 (sl_fr hs (f.trans1 g3)) (q2.fr f3 (fun h => h)) q3 (by omega)).mono ?_
  rintro r u4 ⟨f4, A', c', rfl, h4⟩
  have g4 := g3.trans1 f4
  refine ⟨_, _, _, rfl, kp_mk g4 hb3 (fun h => h) (kp_mk g4 hb3 (fun h => h) (kp_mk g4 hb3 (fun h => h) (gd_mk (len1 hx) (gd_mk rfl (gd_mk (by simp [hx]) ?_)))))⟩
  refine st_all (r5.fr g4 (fun h => h)) z35 (by simp [hx]) ((tagE e x).one A' _ c') (fun u5 f5 r5' => ⟨?_, _, rfl, A', _, c', rfl, ?_, hx, fun _ k hk => ?_⟩)
  · exact fr_own (f.trans1 g4) f5 hb5
  · exact sl_fr1 h4 f5 (by have := g3.size; have := r5.lt; omega)
  · have := (h4.blt hk).1; have := f.size; have := g3.size; omega
set_option maxHeartbeats 1000000 in
theorem unt_calls (e : Tn) (x : Wd) (x0 : List Value) (w : World) (h : TnAt w x0 e) (hx : x.d.length = 32) (hn : e.l.length ≤ 4294967296) :
    Calls Tryz.prog 88 #[ofL x0, ofL x.cs] w fun r w' => Fr (fun _ => False) w w' ∧ ∃ cs, r = .returned (ofL cs) ∧ TnP (fun k => w.heap.size ≤ k) w' cs (untE e x) := by
  refine (F88.of x0 x.cs w (Q := fun v w' => Fr (fun _ => False) w w' ∧ ∃ cs, v = ofL cs ∧ TnP (fun k => w.heap.size ≤ k) w' cs (untE e x)) ?_).mono (fun e w' ⟨v, he, hf, cs, hv, h⟩ => ⟨hf, cs, by rw [he, hv], h⟩)
  obtain ⟨A, n, c, rfl, hs, hd⟩ := h
  have hl := sl_n hs
  refine nw3 (fun b1 b3 b5 u f r1 r3 r5 hb5 n15 n35 => ?_)
  have f := f.trans1 (Fr.drew _ u)
  have r1 : RecAt u.drew b1 _ ([.string e.nm] ++ (e.d.map bv ++ [.bool e.g, .int .i64 e.s, .int .i64 e.o, .int .i64 e.q, .slice A n c])) := r1
  have r3 : RecAt u.drew b3 _ ([.int .i64 x.k, .int .u64 x.sq] ++ (x.d.map bv ++ [.string x.nm, .int .i64 x.z, .int .i64 x.s, .int .i64 x.o, .int .i64 x.q])) := r3
  have r5 : RecAt u.drew b5 _ _ := r5
  generalize u.drew = u at f r1 r3 r5 ⊢
  have hb1 := r1.lt
  have hb3 := r3.lt
  refine ⟨e.nm, r1.cell rfl, [.int .i64 x.s, .int .i64 x.o, .int .i64 x.q], rfl, rec_loc r3 (bvl hx) (j := 2) rfl rfl rfl rfl, A, n, c, rec_end r1 (bvl hd) (j := 4) rfl rfl, ?_⟩
  refine nw_mk (cs := [Value.slice A n c]) ?_
  have g3 : Fr (fun _ => False) u (u.alloc (.cells [Value.slice A n c].toArray 46)) := Fr.alloc _ _ _
  have q3 := RecAt.new u [Value.slice A n c] 46
  generalize u.alloc (.cells [Value.slice A n c].toArray 46) = u3 at g3 q3 ⊢
  refine kp_mk g3 hb3 (fun h => h) (kp_mk g3 hb1 (fun h => h) (?_))
  refine (row1_calls A n c e.l _ u3 (sl_fr hs (f.trans1 g3)) q3 (by omega)).mono ?_
  rintro r u4 ⟨f4, A', c', rfl, h4⟩
  have g4 := g3.trans1 f4
  refine ⟨_, _, _, rfl, kp_mk g4 hb3 (fun h => h) (kp_mk g4 hb1 (fun h => h) (gd_mk rfl (gd_mk rfl ?_)))⟩
  refine st_all (r5.fr g4 (fun h => h)) z35 (rfl) ((untE e x).one A' _ c') (fun u5 f5 r5' => ⟨?_, _, rfl, A', _, c', rfl, ?_, rfl, fun _ k hk => ?_⟩)
  · exact fr_own (f.trans1 g4) f5 hb5
  · exact sl_fr1 h4 f5 (by have := g3.size; have := r5.lt; omega)
  · have := (h4.blt hk).1; have := f.size; have := g3.size; omega
def zT : Tn := ⟨⟨#[]⟩, List.replicate 32 0, false, 0, 0, 0, []⟩
def keepT (e : Tn) (sg : List Int) : Tn × Bool :=
  if both e.l sg = [] ∧ (e.s ∉ sg ∨ e.g = true) then (zT, false)
  else if e.s ∉ sg then (⟨e.nm, List.replicate 32 0, true, 0, 0, 0, both e.l sg⟩, true) else (⟨e.nm, e.d, e.g, e.s, e.o, e.q, both e.l sg⟩, true)
theorem Tn.splice_l (e : Tn) (A A' : Option Addr) (n n' c c' : Nat) (l : List Int) (hd : e.d.length = 32) : splice (e.cs A n c) 37 [.slice A' n' c'] = (⟨e.nm, e.d, e.g, e.s, e.o, e.q, l⟩ : Tn).cs A' n' c' := by
  have h : ∀ (B : Option Addr) (m k : Nat), [Value.string e.nm] ++ (e.d.map bv ++ [Value.bool e.g, .int .i64 e.s, .int .i64 e.o, .int .i64 e.q, .slice B m k]) = ([Value.string e.nm] ++ (e.d.map bv ++ [Value.bool e.g, .int .i64 e.s, .int .i64 e.o, .int .i64 e.q])) ++ [.slice B m k] := fun B m k => by simp
  unfold Tn.cs
  rw [h, h, splice_last (by simp [hd])]
theorem keepT_len (e : Tn) (sg : List Int) : (keepT e sg).1.l.length ≤ e.l.length := by
  have := both_len e.l sg
  unfold keepT
  split
  · exact Nat.zero_le _
  · split <;> exact this
end Go.Proofs.YthcclmlbkfadcaaGreat.Tg
/- rows of digests: how they lie; the document Same -/
namespace Go.Proofs.YthcclmlbkfadcaaGreat.Tg
open Go.GV Go.RowKit Go.Lib
set_option linter.unusedVariables false
set_option linter.unusedSimpArgs false
theorem eqAB_bytes {n : Nat} {a b : List UInt8} {K : Bool → Prop} (ha : a.length = n) (hb : b.length = n) (hK : K (a == b)) : eqAB n (a.map bv) (b.map bv) K := ⟨a, b, ha, hb, rfl, rfl, hK⟩
abbrev Dig := List UInt8
def dcs (r : List Dig) : List Value := (r.map (fun d => d.map bv)).flatten
def W32 (r : List Dig) : Prop := ∀ d ∈ r, d.length = 32
theorem W32.at {r : List Dig} (h : W32 r) {i : Nat} {d : Dig} (hi : r[i]? = some d) : d.length = 32 := h d (List.mem_of_getElem? hi)
theorem dcs_flat {r : List Dig} (h : W32 r) : (dcs r).length = r.length * 32 ∧ ∀ (i : Nat) (d : Dig) (j : Nat), r[i]? = some d → j < 32 → (dcs r)[i * 32 + j]? = (d.map bv)[j]? := by
  obtain ⟨h1, h2⟩ := flatten_get (vss := r.map (fun d => d.map bv)) (k := 32) (fun i v hv => by
    rw [List.getElem?_map] at hv
    cases hr : r[i]? with
    | none => rw [hr] at hv; cases hv
    | some d => rw [hr] at hv; injection hv with hv; subst hv; rw [List.length_map]; exact h.at hr)
  refine ⟨by unfold dcs; rw [h1, List.length_map], fun i d j hi hj => ?_⟩
  exact h2 i _ j (by rw [List.getElem?_map, hi]; rfl) hj
theorem dcs_len {r : List Dig} (h : W32 r) : (dcs r).length = r.length * 32 := (dcs_flat h).1
theorem dcs_at {r : List Dig} (h : W32 r) {i : Nat} {d : Dig} (hi : r[i]? = some d) (j : Nat) (v : Value) (hv : (d.map bv)[j]? = some v) : (dcs r)[i * 32 + j]? = some v := by
  have hj := (List.getElem?_eq_some_iff.1 hv).1
  rw [List.length_map, h.at hi] at hj
  rw [(dcs_flat h).2 i d j hi hj]; exact hv
theorem dcs_append (a b : List Dig) : dcs (a ++ b) = dcs a ++ dcs b := by simp [dcs]
theorem dcs_one (d : Dig) : dcs [d] = d.map bv := by simp [dcs]
theorem dcs_oneCell (r : List Dig) : ∀ v ∈ dcs r, v.oneCell' = true := by
  intro v hv
  simp only [dcs, List.mem_flatten, List.mem_map] at hv
  obtain ⟨l, ⟨d, _, rfl⟩, hv⟩ := hv
  exact bvs_one d v hv
theorem dcs_take {r : List Dig} (h : W32 r) (k : Nat) : dcs (r.take k) = (dcs r).take (k * 32) := by
  by_cases hk : k ≤ r.length
  · have e : dcs r = dcs (r.take k) ++ dcs (r.drop k) := by rw [← dcs_append, List.take_append_drop]
    have hl : (dcs (r.take k)).length = k * 32 := by rw [dcs_len (fun d hd => h d (List.mem_of_mem_take hd)), List.length_take]; congr 1; omega
    rw [e, List.take_append_of_le_length (by omega), List.take_of_length_le (l := dcs (r.take k)) (by omega)]
  · rw [List.take_of_length_le (by omega), List.take_of_length_le (by rw [dcs_len h]; omega)]
/-- an element of a slice of digests -/
theorem sl_dig {w : World} {A : Option Addr} {n : Nat} {r : List Dig} (hs : Sl w 32 A n (dcs r)) (hw : W32 r) {i : Nat} (hi : i < n) : ∃ b o, A = some ⟨b, o, none⟩ ∧ ∀ j d, r[j]? = some d → cellsAt w b (o + j * 32) (d.map bv) := by
  obtain ⟨b, o, hA, hc⟩ := hs.2 (by omega)
  refine ⟨b, o, hA, fun j d hj q v hq => ?_⟩
  rw [Nat.add_assoc]
  exact hc _ v (dcs_at hw hj q v hq)
theorem sl_len {w : World} {A : Option Addr} {n : Nat} {r : List Dig} (hs : Sl w 32 A n (dcs r)) (hw : W32 r) : r.length = n := by
  have := hs.1
  rw [dcs_len hw] at this
  omega
theorem push_dig {w : World} {B : Nat} {A : Option Addr} {n c : Nat} {out : List Dig} {d : Dig} {K : Option Addr → Nat → Nat → World → Prop} (hr : Row w B 33 32 A n c (dcs out)) (hd : d.length = 32) (hB : B ≤ w.heap.size) (hn : n ≤ 2199023255552)
    (hK : ∀ A' c' w', Row w' B 33 32 A' (n + 1) c' (dcs (out ++ [d])) → Fr (fun k => blkOf A = some k) w w' → K A' (n + 1) c' w') : nw w (d.map bv ++ []) 33 fun b w' => app w' 32 32 Z33 33 A n c (.slice (some ⟨b, 0, none⟩) 1 1) K := by
  refine nw_mk ?_
  rw [List.append_nil]
  have f1 : Fr (fun _ => False) w (w.alloc (.cells (d.map bv).toArray 33)) := Fr.alloc _ _ _
  have r1 : Row (w.alloc (.cells (d.map bv).toArray 33)) 0 33 32 (some ⟨w.heap.size, 0, none⟩) 1 1 (dcs [d]) := by
    rw [dcs_one]; exact Row.new (Nat.zero_le _) (by rw [List.length_map, hd])
  have hs : (w.alloc (.cells (d.map bv).toArray 33)).heap.size = w.heap.size + 1 := alloc_size _ _
  generalize w.alloc (.cells (d.map bv).toArray 33) = w1 at f1 r1 hs ⊢
  have hA : ∀ k, blkOf A = some k → k < w.heap.size := fun k hk => (hr.blt hk).2
  refine app_row (f1.row hr (fun _ _ h => h)) r1.sl.src (dcs_oneCell [d]) (by decide +kernel) (by omega) (by omega) (by omega) (fun A' c' w' hr' f' => hK A' c' w' (by rw [dcs_append]; exact hr') ?_)
  exact f1.trans f' (fun _ _ h => h.elim) (fun _ _ h => h)
end Go.Proofs.YthcclmlbkfadcaaGreat.Tg
/- chapter 21, plainly: the order of names; tables of names' entries -/
namespace Go.Proofs.YthcclmlbkfadcaaGreat.Tg
open Go.GV Go.RowKit Go.Lib
set_option linter.unusedVariables false
set_option linter.unusedSimpArgs false
/-! ### the order of texts -/
def cmpN (a b : ByteArray) : Int := compareBytes a.data.toList b.data.toList
theorem ba_ext {a b : ByteArray} (h : a.data.toList = b.data.toList) : a = b := by
  obtain ⟨⟨x⟩⟩ := a
  obtain ⟨⟨y⟩⟩ := b
  have h : x = y := h
  rw [h]
theorem neq (a b : ByteArray) : (a.toList == b.toList) = decide (a = b) := by
  rw [toList_data, toList_data, Bool.eq_iff_iff, beq_iff_eq, decide_eq_true_iff]
  exact ⟨ba_ext, fun h => by rw [h]⟩
theorem cmpN_zero (a b : ByteArray) : cmpN a b = 0 ↔ a = b := by
  unfold cmpN
  rw [cmp_zero]
  exact ⟨ba_ext, fun h => by rw [h]⟩
theorem cmpN_self (a : ByteArray) : cmpN a a = 0 := (cmpN_zero a a).2 rfl
theorem cmpN_anti (a b : ByteArray) : cmpN a b = - cmpN b a := cmp_anti _ _
theorem cmpN_trans {a b c : ByteArray} (h1 : cmpN a b < 0) (h2 : cmpN b c < 0) : cmpN a c < 0 := by
  have h := cmp_trans a.data.toList b.data.toList c.data.toList (by unfold cmpN at h1; omega) (by unfold cmpN at h2; omega)
  have h : cmpN a c ≤ 0 := h
  by_cases h0 : cmpN a c = 0
  · have := (cmpN_zero a c).1 h0
    subst this
    have := cmpN_anti a b
    omega
  · omega
/-! ### tables -/
def AscT (l : List Tn) : Prop := l.Pairwise (fun a b => cmpN a.nm b.nm < 0)
def setR (e : Tn) : List Tn → List Tn
  | [] => [e]
  | x :: xs => if cmpN x.nm e.nm < 0 then x :: setR e xs else if x.nm = e.nm then e :: xs else e :: x :: xs
theorem setR_mem (e : Tn) : ∀ (l : List Tn) (y : Tn), y ∈ setR e l → y = e ∨ y ∈ l
  | [], y, h => by simp [setR] at h; exact .inl h
  | x :: xs, y, h => by
    unfold setR at h
    split at h
    · rcases List.mem_cons.1 h with h | h
      · exact .inr (h ▸ List.mem_cons_self ..)
      · exact (setR_mem e xs y h).imp id (List.mem_cons_of_mem _)
    · split at h
      · rcases List.mem_cons.1 h with h | h
        · exact .inl h
        · exact .inr (List.mem_cons_of_mem _ h)
      · rcases List.mem_cons.1 h with h | h
        · exact .inl h
        · exact .inr h
theorem setR_len (e : Tn) : ∀ l : List Tn, (setR e l).length ≤ l.length + 1
  | [] => by simp [setR]
  | x :: xs => by
    have := setR_len e xs
    unfold setR
    split
    · simp; omega
    · split <;> simp
theorem setR_asc (e : Tn) : ∀ {l : List Tn}, AscT l → AscT (setR e l)
  | [], _ => List.pairwise_singleton _ _
  | x :: xs, h => by
    have hc := List.pairwise_cons.1 h
    unfold setR
    by_cases h1 : cmpN x.nm e.nm < 0
    · rw [if_pos h1]
      refine List.pairwise_cons.2 ⟨fun y hy => ?_, setR_asc e hc.2⟩
      rcases setR_mem e xs y hy with rfl | hy
      · exact h1
      · exact hc.1 y hy
    · rw [if_neg h1]
      by_cases h2 : x.nm = e.nm
      · rw [if_pos h2]
        exact List.pairwise_cons.2 ⟨fun y hy => by rw [← h2]; exact hc.1 y hy, hc.2⟩
      · rw [if_neg h2]
        have hlt : cmpN e.nm x.nm < 0 := by
          have := cmpN_anti x.nm e.nm
          have : cmpN x.nm e.nm ≠ 0 := fun h => h2 ((cmpN_zero _ _).1 h)
          omega
        refine List.pairwise_cons.2 ⟨fun y hy => ?_, h⟩
        rcases List.mem_cons.1 hy with rfl | hy
        · exact hlt
        · exact cmpN_trans hlt (hc.1 y hy)
/-- where a name stands, or would -/
def Pl (nm : ByteArray) (i : Nat) (l : List Tn) : Prop := i ≤ l.length ∧ (∀ x ∈ l.take i, cmpN x.nm nm < 0) ∧ ∀ x ∈ l.drop i, ¬ cmpN x.nm nm < 0
def isAt (nm : ByteArray) (i : Nat) (l : List Tn) : Bool := match l[i]? with
  | some x => decide (x.nm = nm)
  | none => false
theorem pl_set (e : Tn) : ∀ (l : List Tn) (i : Nat), Pl e.nm i l → setR e l = if isAt e.nm i l then l.set i e else l.take i ++ [e] ++ l.drop i
  | [], i, h => by
    have : i = 0 := by have := h.1; simpa using this
    subst this
    simp [setR, isAt]
  | x :: xs, 0, h => by
    have h0 := h.2.2 x (by simp)
    unfold setR
    rw [if_neg h0]
    by_cases h2 : x.nm = e.nm
    · rw [if_pos h2, if_pos (by simp [isAt, h2])]; rfl
    · rw [if_neg h2, if_neg (by simp [isAt, h2])]; rfl
  | x :: xs, i + 1, h => by
    have h0 := h.2.1 x (by simp)
    unfold setR
    rw [if_pos h0, pl_set e xs i ⟨by have := h.1; simpa using this, fun y hy => h.2.1 y (by simp [hy]), fun y hy => h.2.2 y (by simpa using hy)⟩]
    have : isAt e.nm (i + 1) (x :: xs) = isAt e.nm i xs := rfl
    rw [this]
    split <;> simp
/-- what a table says of a name -/
def getR (nm : ByteArray) (l : List Tn) : Tn × Bool := match l.find? (fun x => decide (x.nm = nm)) with
  | some e => (e, true)
  | none => (zT, false)
theorem getR_none {nm : ByteArray} {l : List Tn} (h : ∀ x ∈ l, x.nm ≠ nm) : getR nm l = (zT, false) := by
  unfold getR
  rw [List.find?_eq_none.2 (fun x hx => by simpa using h x hx)]
theorem getR_snoc {nm : ByteArray} {a b : List Tn} {e : Tn} (h : ∀ x ∈ a, x.nm ≠ nm) (he : e.nm = nm) : getR nm (a ++ e :: b) = (e, true) := by
  unfold getR
  rw [List.find?_append, List.find?_eq_none.2 (fun x hx => by simpa using h x hx), List.find?_cons_of_pos (by simpa using he)]
  rfl
theorem at_split {α : Type} {l : List α} {i : Nat} {e : α} (h : l[i]? = some e) : l = l.take i ++ e :: l.drop (i + 1) := by
  obtain ⟨hi, he⟩ := List.getElem?_eq_some_iff.1 h
  subst he
  rw [List.getElem_cons_drop, List.take_append_drop]
theorem pl_get {nm : ByteArray} {i : Nat} {l : List Tn} (ha : AscT l) (h : Pl nm i l) : (∃ e, l[i]? = some e ∧ isAt nm i l = true ∧ getR nm l = (e, true)) ∨ (isAt nm i l = false ∧ getR nm l = (zT, false)) := by
  have hlow : ∀ x ∈ l.take i, x.nm ≠ nm := fun x hx he => by
    have := h.2.1 x hx
    rw [he, cmpN_self] at this; omega
  cases hi : l[i]? with
  | none =>
    refine .inr ⟨by unfold isAt; rw [hi], ?_⟩
    refine getR_none (fun x hx => hlow x ?_)
    rw [List.take_of_length_le (by rw [List.getElem?_eq_none_iff] at hi; exact hi)]; exact hx
  | some e =>
    have hs := at_split hi
    by_cases he : e.nm = nm
    · refine .inl ⟨e, rfl, by unfold isAt; rw [hi]; exact decide_eq_true he, ?_⟩
      rw [hs]; exact getR_snoc hlow he
    · refine .inr ⟨by unfold isAt; rw [hi]; exact decide_eq_false he, ?_⟩
      refine getR_none (fun x hx => ?_)
      rw [hs] at hx
      rcases List.mem_append.1 hx with hx | hx
      · exact hlow x hx
      · have hd : l.drop i = e :: l.drop (i + 1) := by
          obtain ⟨hi', he'⟩ := List.getElem?_eq_some_iff.1 hi
          subst he'
          rw [List.getElem_cons_drop]
        have h0 := h.2.2 e (by rw [hd]; exact List.mem_cons_self ..)
        have hgt : cmpN nm e.nm < 0 := by
          have := cmpN_anti e.nm nm
          have : cmpN e.nm nm ≠ 0 := fun h => he ((cmpN_zero _ _).1 h)
          omega
        rcases List.mem_cons.1 hx with rfl | hx
        · exact he
        · have hp : AscT (l.drop i) := ha.sublist (List.drop_sublist i l)
          rw [hd] at hp
          have := cmpN_trans hgt ((List.pairwise_cons.1 hp).1 x hx)
          intro hx'
          rw [hx', cmpN_self] at this; omega
/-! ### the document's Set -/
def setS (e : Tn) (s : List Tn × Bool) (x : Tn) : List Tn × Bool :=
  let t := if !s.2 && !decide (cmpN x.nm e.nm < 0) then (s.1 ++ [e], true) else s
  (if x.nm = e.nm then t.1 else t.1 ++ [x], t.2)
def setF (e : Tn) (s : List Tn × Bool) : List Tn := if s.2 then s.1 else s.1 ++ [e]
/-! ### what is left, what is there -/
def keepL (sg : List Int) (l : List Tn) : List Tn := l.filterMap (fun e => if (keepT e sg).2 then some (keepT e sg).1 else none)
theorem keepL_len (sg : List Int) (l : List Tn) : (keepL sg l).length ≤ l.length := List.length_filterMap_le _ _
def thereL (l : List Tn) : List Tn := l.filter (fun e => !e.g)
def namesB (after : ByteArray) (l : List Tn) : List ByteArray := (l.filter (fun e => decide (cmpN after e.nm < 0))).map (·.nm)
def listL (after : ByteArray) (n : Int) (l : List Tn) : List ByteArray := (namesB after (thereL l)).take n.toNat
def digL (l : List Tn) : List (List UInt8) := l.map (·.d)
end Go.Proofs.YthcclmlbkfadcaaGreat.Tg
/- chapter 21: rows of names' entries, as they lie -/
namespace Go.Proofs.YthcclmlbkfadcaaGreat.Tg
open Go.GV Go.RowKit Go.Lib
set_option linter.unusedVariables false
set_option linter.unusedSimpArgs false
theorem TnP.mono {P P' : Nat → Prop} {w : World} {cs : List Value} {e : Tn} (h : TnP P w cs e) (hP : ∀ k, k < w.heap.size → P k → P' k) : TnP P' w cs e := by
  obtain ⟨A, n, c, h1, h2, h3, h4⟩ := h
  exact ⟨A, n, c, h1, h2, h3, fun h0 k hk => hP k (h2.blt (by decide) h0 hk) (h4 h0 k hk)⟩
theorem TnP.fr {P D : Nat → Prop} {w w' : World} {cs : List Value} {e : Tn} (h : TnP P w cs e) (f : Fr D w w') (hD : ∀ k, P k → ¬ D k) : TnP P w' cs e := by
  obtain ⟨A, n, c, h1, h2, h3, h4⟩ := h
  exact ⟨A, n, c, h1, f.sl h2 (fun h0 k hk => hD k (h4 h0 k hk)), h3, h4⟩
theorem TnP.fr0 {P : Nat → Prop} {w w' : World} {cs : List Value} {e : Tn} (h : TnP P w cs e) (f : Fr (fun _ => False) w w') : TnP P w' cs e := h.fr f (fun _ _ h => h)
theorem TnP.len {P : Nat → Prop} {w : World} {cs : List Value} {e : Tn} (h : TnP P w cs e) : cs.length = 38 := h.at.len
theorem TnP.one {P : Nat → Prop} {w : World} {cs : List Value} {e : Tn} (h : TnP P w cs e) : ∀ v ∈ cs, v.oneCell' = true := h.at.one
/-! ### a row of cells as chunks -/
def chunk (vs : List Value) (i : Nat) : List Value := (vs.drop (i * 38)).take 38
theorem chunk_l {vs us : List Value} {i : Nat} (h : (i + 1) * 38 ≤ vs.length) : chunk (vs ++ us) i = chunk vs i := by
  unfold chunk
  rw [List.drop_append_of_le_length (by omega), List.take_append_of_le_length (by rw [List.length_drop]; omega)]
theorem chunk_r {vs us : List Value} {n j : Nat} (h : vs.length = n * 38) : chunk (vs ++ us) (n + j) = chunk us j := by
  unfold chunk
  rw [Nat.add_mul, ← h, List.drop_append, List.drop_of_length_le (by omega), List.nil_append]
  congr 2; omega
theorem chunk_take {vs : List Value} {k i : Nat} (h : i < k) : chunk (vs.take (k * 38)) i = chunk vs i := by
  unfold chunk
  rw [List.drop_take, List.take_take, Nat.min_eq_left (by omega)]
theorem chunk_drop {vs : List Value} {k i : Nat} : chunk (vs.drop (k * 38)) i = chunk vs (k + i) := by
  unfold chunk
  rw [List.drop_drop, Nat.add_mul]
theorem chunk_one {cs : List Value} (h : cs.length = 38) : chunk cs 0 = cs := by
  unfold chunk
  rw [Nat.zero_mul, List.drop_zero, List.take_of_length_le (by omega)]
theorem chunk_get {vs : List Value} {i j : Nat} (hj : j < 38) : (chunk vs i)[j]? = vs[i * 38 + j]? := by
  unfold chunk
  rw [List.getElem?_take, if_pos hj, List.getElem?_drop]
theorem chunk_set {vs cs : List Value} {k i : Nat} (hl : cs.length = 38) (hk : (k + 1) * 38 ≤ vs.length) : chunk (splice vs (k * 38) cs) i = if i = k then cs else chunk vs i := by
  have hfit : k * 38 + cs.length ≤ vs.length := by omega
  apply List.ext_getElem?
  intro j
  by_cases hj : j < 38
  · rw [chunk_get hj, splice_get hfit, hl]
    by_cases hik : i = k
    · subst hik
      rw [if_pos rfl, if_neg (by omega), if_pos (by omega)]
      congr 1; omega
    · rw [if_neg hik, chunk_get hj]
      by_cases h1 : i < k
      · rw [if_pos (by omega)]
      · rw [if_neg (by omega), if_neg (by omega)]
  · have hlen : ∀ x : List Value, (chunk x i)[j]? = none := fun x => by
      unfold chunk
      rw [List.getElem?_take, if_neg hj]
    rw [hlen]
    split
    · rw [List.getElem?_eq_none (by omega)]
    · rw [hlen]
structure TRow (P : Nat → Prop) (w : World) (vs : List Value) (l : List Tn) : Prop where
  len : vs.length = l.length * 38
  at_ : ∀ (i : Nat) (e : Tn), l[i]? = some e → TnP P w (chunk vs i) e
theorem TRow.nil (P : Nat → Prop) (w : World) : TRow P w [] [] := ⟨rfl, fun i e h => by simp at h⟩
theorem TRow.mono {P P' : Nat → Prop} {w : World} {vs : List Value} {l : List Tn} (h : TRow P w vs l) (hP : ∀ k, k < w.heap.size → P k → P' k) : TRow P' w vs l := ⟨h.len, fun i e hi => (h.at_ i e hi).mono hP⟩
theorem TRow.fr {P D : Nat → Prop} {w w' : World} {vs : List Value} {l : List Tn} (h : TRow P w vs l) (f : Fr D w w') (hD : ∀ k, P k → ¬ D k) : TRow P w' vs l := ⟨h.len, fun i e hi => (h.at_ i e hi).fr f hD⟩
theorem TRow.one {P : Nat → Prop} {w : World} {cs : List Value} {e : Tn} (h : TnP P w cs e) : TRow P w cs [e] := by
  refine ⟨by rw [h.len]; rfl, fun i x hi => ?_⟩
  match i, hi with
  | 0, hi => injection hi with hi; subst hi; rw [chunk_one h.len]; exact h
  | i + 1, hi => simp at hi
theorem TRow.app {P : Nat → Prop} {w : World} {vs us : List Value} {l m : List Tn} (h : TRow P w vs l) (h' : TRow P w us m) : TRow P w (vs ++ us) (l ++ m) := by
  refine ⟨by rw [List.length_append, List.length_append, h.len, h'.len, Nat.add_mul], fun i e hi => ?_⟩
  by_cases hil : i < l.length
  · rw [List.getElem?_append_left hil] at hi
    rw [chunk_l (by rw [h.len]; exact Nat.mul_le_mul_right _ hil)]
    exact h.at_ i e hi
  · rw [List.getElem?_append_right (by omega)] at hi
    have : i = l.length + (i - l.length) := by omega
    rw [this, chunk_r h.len]
    exact h'.at_ _ e hi
theorem TRow.take {P : Nat → Prop} {w : World} {vs : List Value} {l : List Tn} (h : TRow P w vs l) (k : Nat) : TRow P w (vs.take (k * 38)) (l.take k) := by
  refine ⟨by rw [List.length_take, List.length_take, h.len]; omega, fun i e hi => ?_⟩
  rw [List.getElem?_take] at hi
  split at hi
  · rw [chunk_take (by assumption)]; exact h.at_ i e hi
  · cases hi
theorem TRow.drop {P : Nat → Prop} {w : World} {vs : List Value} {l : List Tn} (h : TRow P w vs l) (k : Nat) : TRow P w (vs.drop (k * 38)) (l.drop k) := by
  refine ⟨by rw [List.length_drop, List.length_drop, h.len]; omega, fun i e hi => ?_⟩
  rw [List.getElem?_drop] at hi
  rw [chunk_drop]; exact h.at_ _ e hi
theorem TRow.set {P : Nat → Prop} {w : World} {vs cs : List Value} {l : List Tn} {k : Nat} {e : Tn} (h : TRow P w vs l) (he : TnP P w cs e) (hk : k < l.length) : TRow P w (splice vs (k * 38) cs) (l.set k e) := by
  have hfit : (k + 1) * 38 ≤ vs.length := by rw [h.len]; exact Nat.mul_le_mul_right _ hk
  have hl := he.len
  refine ⟨by rw [splice_length (by omega), List.length_set]; exact h.len, fun i x hi => ?_⟩
  rw [chunk_set hl hfit]
  by_cases hik : i = k
  · subst hik
    rw [if_pos rfl]
    rw [List.getElem?_set_self hk] at hi
    injection hi with hi; subst hi; exact he
  · rw [if_neg hik]
    rw [List.getElem?_set_ne (fun h => hik h.symm)] at hi
    exact h.at_ i x hi
theorem TRow.ones {P : Nat → Prop} {w : World} {vs : List Value} {l : List Tn} (h : TRow P w vs l) : ∀ v ∈ vs, v.oneCell' = true := by
  intro v hv
  obtain ⟨j, hj, rfl⟩ := List.mem_iff_getElem.1 hv
  have hi : j / 38 < l.length := by
    have := h.len
    omega
  have h1 := h.at_ (j / 38) _ (List.getElem?_eq_getElem hi)
  refine h1.one _ (List.mem_of_getElem? (i := j % 38) ?_)
  rw [chunk_get (by omega), List.getElem?_eq_some_iff]
  refine ⟨by omega, ?_⟩
  congr 1; omega
/-- a table that can be read -/
def RT (P : Nat → Prop) (w : World) (A : Option Addr) (n : Nat) (l : List Tn) : Prop := ∃ vs, Sl w 38 A n vs ∧ TRow P w vs l
theorem RT.len {P : Nat → Prop} {w : World} {A : Option Addr} {n : Nat} {l : List Tn} (h : RT P w A n l) : l.length = n := by
  obtain ⟨vs, h1, h2⟩ := h
  have := h1.1
  rw [h2.len] at this
  omega
theorem RT.fr {P D : Nat → Prop} {w w' : World} {A : Option Addr} {n : Nat} {l : List Tn} (h : RT P w A n l) (f : Fr D w w') (hD : ∀ k, P k → ¬ D k) (hA : n ≠ 0 → ∀ k, blkOf A = some k → ¬ D k) : RT P w' A n l := by
  obtain ⟨vs, h1, h2⟩ := h
  exact ⟨vs, f.sl h1 hA, h2.fr f hD⟩
theorem RT.fr0 {P : Nat → Prop} {w w' : World} {A : Option Addr} {n : Nat} {l : List Tn} (h : RT P w A n l) (f : Fr (fun _ => False) w w') : RT P w' A n l := h.fr f (fun _ _ h => h) (fun _ _ _ h => h)
theorem RT.mono {P P' : Nat → Prop} {w : World} {A : Option Addr} {n : Nat} {l : List Tn} (h : RT P w A n l) (hP : ∀ k, k < w.heap.size → P k → P' k) : RT P' w A n l := by
  obtain ⟨vs, h1, h2⟩ := h
  exact ⟨vs, h1, h2.mono hP⟩
theorem RT.nil (P : Nat → Prop) (w : World) (A : Option Addr) : RT P w A 0 [] := ⟨[], Sl.nil _ _ _, TRow.nil _ _⟩
/-- a step of a loop over a table -/
theorem t_rd {P : Nat → Prop} {w : World} {A : Option Addr} {n : Nat} {l : List Tn} (h : RT P w A n l) {i : Nat} {e : Tn} (hi : l[i]? = some e) {X : Nat → Nat → Prop}
    (hX : ∀ b o cs, A = some ⟨b, o, none⟩ → TnP P w cs e → cellsAt w b (o + ((i : Int)).toNat * 38) cs → X b o) : dr A fun b o => gd (decide (0 ≤ (i : Int))) (gd (decide ((i : Int) < ((n : Nat) : Int))) (X b o)) := by
  have hl := h.len
  have hil := (List.getElem?_eq_some_iff.1 hi).1
  obtain ⟨vs, h1, h2⟩ := h
  obtain ⟨b, o, rfl, hc⟩ := h1.2 (by omega)
  have ht := h2.at_ i e hi
  refine dr_mk (gd_mk (decide_eq_true (by omega)) (gd_mk (decide_eq_true (by omega)) (hX b o _ rfl ht ?_)))
  rw [Int.toNat_natCast]
  intro j v hj
  have hj38 : j < 38 := by have := (List.getElem?_eq_some_iff.1 hj).1; rw [ht.len] at this; exact this
  rw [chunk_get hj38] at hj
  rw [Nat.add_assoc]
  exact hc _ v hj
theorem c_nm {P : Nat → Prop} {w w' : World} {cs : List Value} {e : Tn} {b p : Nat} (h : TnP P w' cs e) (hc : cellsAt w b p cs) : cellAt w b p = some (.string e.nm) := by
  obtain ⟨A, n, c, rfl, _⟩ := h
  exact hc 0 _ rfl
theorem c_gone {P : Nat → Prop} {w w' : World} {cs : List Value} {e : Tn} {b p : Nat} (h : TnP P w' cs e) (hc : cellsAt w b p cs) : cellAt w b (p + 33) = some (.bool e.g) := by
  obtain ⟨A, n, c, rfl, _, hd, _⟩ := h
  refine hc 33 _ ?_
  unfold Tn.cs
  rw [List.getElem?_append_right (by simp), List.getElem?_append_right (by simp [hd])]
  simp [hd]
theorem c_dig {P : Nat → Prop} {w w' : World} {cs : List Value} {e : Tn} {b p : Nat} (h : TnP P w' cs e) (hc : cellsAt w b p cs) : cellsAt w b (p + 1) (e.d.map bv) := by
  obtain ⟨A, n, c, rfl, _⟩ := h
  intro j v hj
  have hj' := (List.getElem?_eq_some_iff.1 hj).1
  rw [Nat.add_assoc]
  refine hc (1 + j) v ?_
  unfold Tn.cs
  rw [List.getElem?_append_right (by simp), List.getElem?_append_left (by simpa using hj')]
  simpa using hj
theorem TnP.dl {P : Nat → Prop} {w : World} {cs : List Value} {e : Tn} (h : TnP P w cs e) : e.d.length = 32 := by
  obtain ⟨A, n, c, _, _, hd, _⟩ := h
  exact hd
/-- a table of one's own -/
def OT (P : Nat → Prop) (w : World) (B : Nat) (A : Option Addr) (n c : Nat) (l : List Tn) : Prop := ∃ vs, Row w B 53 38 A n c vs ∧ TRow (fun k => blkOf A ≠ some k ∧ P k) w vs l
theorem OT.rt {P : Nat → Prop} {w : World} {B : Nat} {A : Option Addr} {n c : Nat} {l : List Tn} (h : OT P w B A n c l) : RT P w A n l := by
  obtain ⟨vs, h1, h2⟩ := h
  exact ⟨vs, h1.sl, h2.mono (fun _ _ h => h.2)⟩
theorem OT.nil (P : Nat → Prop) (w : World) (B : Nat) : OT P w B none 0 0 [] := ⟨[], Row.nil _ _ _ _, TRow.nil _ _⟩
theorem OT.fr {P D : Nat → Prop} {w w' : World} {B : Nat} {A : Option Addr} {n c : Nat} {l : List Tn} (h : OT P w B A n c l) (f : Fr D w w') (hD : ∀ k, P k → ¬ D k) (hA : ∀ k, blkOf A = some k → ¬ D k) : OT P w' B A n c l := by
  obtain ⟨vs, h1, h2⟩ := h
  exact ⟨vs, f.row h1 hA, h2.fr f (fun k hk => hD k hk.2)⟩
theorem OT.fr0 {P : Nat → Prop} {w w' : World} {B : Nat} {A : Option Addr} {n c : Nat} {l : List Tn} (h : OT P w B A n c l) (f : Fr (fun _ => False) w w') : OT P w' B A n c l := h.fr f (fun _ _ h => h) (fun _ _ h => h)
theorem OT.mono {P P' : Nat → Prop} {w : World} {B B' : Nat} {A : Option Addr} {n c : Nat} {l : List Tn} (h : OT P w B A n c l) (hB : B' ≤ B) (hP : ∀ k, k < w.heap.size → P k → P' k) : OT P' w B' A n c l := by
  obtain ⟨vs, h1, h2⟩ := h
  exact ⟨vs, row_low hB h1, h2.mono (fun k hk h => ⟨h.1, hP k hk h.2⟩)⟩
theorem OT.blt {P : Nat → Prop} {w : World} {B : Nat} {A : Option Addr} {n c : Nat} {l : List Tn} (h : OT P w B A n c l) {k : Nat} (hk : blkOf A = some k) : B ≤ k ∧ k < w.heap.size := by
  obtain ⟨vs, h1, h2⟩ := h
  exact h1.blt hk
set_option maxRecDepth 10000 in
theorem pushT {P : Nat → Prop} {w : World} {B : Nat} {A : Option Addr} {n c : Nat} {l : List Tn} {cs : List Value} {e : Tn} {K : Option Addr → Nat → Nat → World → Prop} (hr : OT P w B A n c l) (he : TnP (fun k => blkOf A ≠ some k ∧ P k) w cs e) (hB : B ≤ w.heap.size) (hn : n ≤ 1073741824)
    (hK : ∀ A' c' w', OT P w' B A' (n + 1) c' (l ++ [e]) → Fr (fun k => blkOf A = some k) w w' → (∀ k, blkOf A' = some k → blkOf A = some k ∨ w.heap.size ≤ k) → K A' (n + 1) c' w') :
    gd (cs.length == 38) (nw w (cs ++ []) 53 fun b w' => app w' 38 104 Z53 53 A n c (.slice (some ⟨b, 0, none⟩) 1 1) K) := by
  refine gd_mk (by rw [he.len]; rfl) (nw_mk ?_)
  rw [List.append_nil]
  have hl := he.len
  have f1 : Fr (fun _ => False) w (w.alloc (.cells cs.toArray 53)) := Fr.alloc _ _ _
  have r1 : Row (w.alloc (.cells cs.toArray 53)) 0 53 38 (some ⟨w.heap.size, 0, none⟩) 1 1 cs := Row.new (Nat.zero_le _) (by rw [hl])
  have hs : (w.alloc (.cells cs.toArray 53)).heap.size = w.heap.size + 1 := alloc_size _ _
  have h1 := he.one
  obtain ⟨vs, hv, ht⟩ := hr
  have hA : ∀ k, blkOf A = some k → k < w.heap.size := fun k hk => (hv.blt hk).2
  have ht1 := (ht.app (TRow.one he)).mono (P' := fun k => (blkOf A ≠ some k ∧ P k) ∧ k < w.heap.size) (fun k hk h => ⟨h, hk⟩)
  have ht1 := ht1.fr f1 (fun _ _ h => h)
  generalize w.alloc (.cells cs.toArray 53) = w1 at f1 r1 hs ht1 ⊢
  refine app_row2 (f1.row hv (fun _ _ h => h)) r1.sl.src h1 rfl (by omega) (by omega) (by omega) (fun A' c' w' hr' f' hnew => hK A' c' w' ⟨_, hr', ?_⟩ ?_ ?_)
  · refine (ht1.fr f' (fun k hk h => hk.1.1 h)).mono (fun k _ hk => ⟨fun h => ?_, hk.1.2⟩)
    rcases hnew k h with h' | h'
    · exact hk.1.1 h'
    · have := hk.2; omega
  · exact f1.trans f' (fun _ _ h => h.elim) (fun _ _ h => h)
  · intro k hk
    rcases hnew k hk with h' | h'
    · exact .inl h'
    · exact .inr (by omega)
end Go.Proofs.YthcclmlbkfadcaaGreat.Tg
/- chapter 21: place, fresh, Get, Row -/
namespace Go.Proofs.YthcclmlbkfadcaaGreat.Tg
open Go.GV Go.RowKit Go.Lib
set_option linter.unusedVariables false
set_option linter.unusedSimpArgs false
theorem strcmp_calls (a b : ByteArray) (w : World) : Calls Tryz.prog 126 #[.string a, .string b] w fun e w' => e = .returned (.int .i64 (cmpN a b)) ∧ w' = w := by
  refine (F126.of a b w (Q := fun v w' => v = .int .i64 (cmpN a b) ∧ w' = w) ?_).mono (fun e w' ⟨v, he, hv, h⟩ => ⟨by rw [he, hv], h⟩)
  refine (F146.of a b w (Q := fun v w' => v = .int .i64 (cmpN a b) ∧ w' = w) ?_).mono ?_
  · exact ⟨_, Extern.BytealgCompare.compare, _, _, Tryz.func157, by kernel_rfl, by kernel_rfl, by kernel_rfl, Lib.run_compareString a b w, cmpN a b, rfl, rfl, rfl⟩
  · rintro e w' ⟨v, rfl, rfl, rfl⟩
    exact ⟨_, rfl, rfl, rfl⟩
theorem pcl_calls {P : Nat → Prop} (e : Tn) (cs : List Value) (nm : ByteArray) (w : World) (h : TnP P w cs e) :
    Calls Tryz.prog 125 #[ofL cs, .string nm] w fun r w' => r = .returned (.int .i64 (cmpN e.nm nm)) ∧ Fr (fun _ => False) w w' := by
  refine (F125.of cs nm w (Q := fun v w' => v = .int .i64 (cmpN e.nm nm) ∧ Fr (fun _ => False) w w') ?_).mono (fun e w' ⟨v, he, hv, h⟩ => ⟨by rw [he, hv], h⟩)
  refine nw_mk ?_
  have f1 : Fr (fun _ => False) w (w.alloc (.cells cs.toArray 53)) := Fr.alloc _ _ _
  have r1 := RecAt.new w cs 53
  generalize w.alloc (.cells cs.toArray 53) = w1 at f1 r1 ⊢
  refine ⟨e.nm, c_nm h (rec_all r1), (strcmp_calls e.nm nm w1).mono ?_⟩
  rintro r w2 ⟨rfl, rfl⟩
  exact ⟨_, rfl, rfl, f1⟩
theorem mem_take_lt {α : Type} {l : List α} {i : Nat} {x : α} (h : x ∈ l.take i) : ∃ j, j < i ∧ l[j]? = some x := by
  obtain ⟨j, hj⟩ := List.mem_iff_getElem?.1 h
  rw [List.getElem?_take] at hj
  split at hj
  · exact ⟨j, by assumption, hj⟩
  · cases hj
theorem mem_drop_ge {α : Type} {l : List α} {i : Nat} {x : α} (h : x ∈ l.drop i) : ∃ j, i ≤ j ∧ l[j]? = some x := by
  obtain ⟨j, hj⟩ := List.mem_iff_getElem?.1 h
  rw [List.getElem?_drop] at hj
  exact ⟨i + j, by omega, hj⟩
theorem asc_lt {l : List Tn} (h : AscT l) {i j : Nat} {x y : Tn} (hi : l[i]? = some x) (hj : l[j]? = some y) (hij : i < j) : cmpN x.nm y.nm < 0 := by
  obtain ⟨h1, rfl⟩ := List.getElem?_eq_some_iff.1 hi
  obtain ⟨h2, rfl⟩ := List.getElem?_eq_some_iff.1 hj
  exact (List.pairwise_iff_getElem.1 h) i j h1 h2 hij
theorem bsT_calls {P : Nat → Prop} (A : Option Addr) (n c : Nat) (l : List Tn) (nm : ByteArray) (w : World) (h : RT P w A n l) (ha : AscT l) (hn : n ≤ 17179869184) :
    Calls Tryz.prog 124 #[.slice A n c, .string nm, .func (.func 125) #[] #[]] w fun e w' => Fr (fun _ => False) w w' ∧ ∃ i : Nat, e = .returned (.tuple #[.int .i64 i, .bool (isAt nm i l)]) ∧ Pl nm i l := by
  refine (F124s.of A n c nm w (Q := fun v w' => Fr (fun _ => False) w w' ∧ ∃ i : Nat, v = .tuple #[.int .i64 i, .bool (isAt nm i l)] ∧ Pl nm i l) ?_).mono (fun e w' ⟨v, he, hf, i, hv, h⟩ => ⟨hf, i, by rw [he, hv], h⟩)
  have hl := h.len
  refine jnC_mk (loop_rule (fun s u => Fr (fun _ => False) w u ∧ ∃ i j : Nat, i ≤ j ∧ j ≤ n ∧ s = ((A, n, c), nm, (), (n : Int), (i : Int), (j : Int), ()) ∧ (∀ x ∈ l.take i, cmpN x.nm nm < 0) ∧ ∀ x ∈ l.drop j, ¬ cmpN x.nm nm < 0)
    (fun s _ => (s.2.2.2.2.2.1 - s.2.2.2.2.1).toNat) ?_ _ _ ⟨Fr.refl _ _, 0, n, by omega, by omega, rfl, by simp, by rw [List.drop_of_length_le (by omega)]; intro x hx; cases hx⟩)
  rintro s u C ⟨hf, i, j, hij, hjn, rfl, hlo, hhi⟩ hC _
  refine vIf_mk (fun hlt => ?_) (fun hge => ?_)
  · have hlt2 : (i : Int) < (j : Int) := of_decide_eq_true hlt
    have em : IntKind.wrap .i64 (Int.fdiv (IntKind.wrap .u64 (IntKind.wrap .i64 ((i : Int) + (j : Int)))) (2 ^ 1)) = (((i + j) / 2 : Nat) : Int) := by
      rw [i64_id (n := (i : Int) + (j : Int)) (by omega) (by omega), IntKind.wrap_u64, Int.fdiv_eq_ediv_of_nonneg _ (by decide), i64_id (by omega) (by omega)]; omega
    have gi : l[(i + j) / 2]? = some (l[(i + j) / 2]'(by omega)) := List.getElem?_eq_getElem (by omega)
    generalize l[(i + j) / 2]'(by omega) = x at gi
    dsimp only
    rw [em]
    refine t_rd (h.fr0 hf) gi (fun b o cs hA hT hc => ⟨cs, hT.len, hc, (pcl_calls x cs nm u hT).mono ?_⟩)
    rintro r u2 ⟨rfl, f2⟩
    refine ⟨_, rfl, vIf_mk (fun h1 => jnC_mk (hC _ _ ⟨hf.trans1 f2, (i + j) / 2 + 1, j, by omega, hjn, by rw [ei _ (by omega)], fun y hy => ?_, hhi⟩ ?_)) (fun h1 => jnC_mk (hC _ _ ⟨hf.trans1 f2, i, (i + j) / 2, by omega, by omega, rfl, hlo, fun y hy => ?_⟩ ?_))⟩
    · have h1 := of_decide_eq_true h1
      obtain ⟨q, hq, hy⟩ := mem_take_lt hy
      by_cases hqm : q = (i + j) / 2
      · rw [hqm] at hy; rw [gi] at hy; injection hy with hy; subst hy; exact h1
      · exact cmpN_trans (asc_lt ha hy gi (by omega)) h1
    · show ((j : Int) - IntKind.wrap .i64 ((((i + j) / 2 : Nat) : Int) + 1)).toNat < ((j : Int) - (i : Int)).toNat
      rw [ei _ (by omega)]; omega
    · have h1 := of_decide_eq_false h1
      obtain ⟨q, hq, hy⟩ := mem_drop_ge hy
      by_cases hqm : q = (i + j) / 2
      · rw [hqm] at hy; rw [gi] at hy; injection hy with hy; subst hy; exact h1
      · intro h2
        exact h1 (cmpN_trans (asc_lt ha gi hy (by omega)) h2)
    · show ((((i + j) / 2 : Nat) : Int) - (i : Int)).toNat < ((j : Int) - (i : Int)).toNat
      omega
  · have hge2 : ¬ (i : Int) < (j : Int) := of_decide_eq_false hge
    have hij2 : i = j := by omega
    subst hij2
    have hpl : Pl nm i l := ⟨by omega, hlo, hhi⟩
    refine vIf_mk (fun h1 => ?_) (fun h1 => ?_)
    · have h1 : (i : Int) < (n : Int) := of_decide_eq_true h1
      have gi : l[i]? = some (l[i]'(by omega)) := List.getElem?_eq_getElem (by omega)
      generalize l[i]'(by omega) = x at gi
      refine t_rd (h.fr0 hf) gi (fun b o cs hA hT hc => ⟨cs, hT.len, hc, (pcl_calls x cs nm u hT).mono ?_⟩)
      rintro r u2 ⟨rfl, f2⟩
      refine ⟨_, rfl, hf.trans1 f2, i, ?_, hpl⟩
      have : isAt nm i l = (cmpN x.nm nm == 0) := by
        unfold isAt
        rw [gi, Bool.eq_iff_iff, decide_eq_true_iff, beq_iff_eq]
        exact (cmpN_zero _ _).symm
      rw [this]
    · have h1 : ¬ (i : Int) < (n : Int) := of_decide_eq_false h1
      refine ⟨hf, i, ?_, hpl⟩
      have : isAt nm i l = false := by
        unfold isAt
        rw [List.getElem?_eq_none (by omega)]
      rw [this]
/-! ### copies -/
theorem clI_calls (A : Option Addr) (n c : Nat) (l : List Int) (w : World) (h : Sl w 1 A n (ivs l)) (hn : n ≤ 17179869184) :
    Calls Tryz.prog 113 #[.slice A n c] w fun e w' => Fr (fun _ => False) w w' ∧ ∃ A' c', e = .returned (.slice A' n c') ∧ Row w' w.heap.size 3 1 A' n c' (ivs l) := by
  refine (F113.of A n c w (Q := fun v w' => Fr (fun _ => False) w w' ∧ ∃ A' c', v = .slice A' n c' ∧ Row w' w.heap.size 3 1 A' n c' (ivs l)) ?_).mono (fun e w' ⟨v, he, hf, A', c', hv, h⟩ => ⟨hf, A', c', by rw [he, hv], h⟩)
  have hl := sl_n h
  refine vIf_mk (fun h0 => ?_) (fun h0 => nw_mk ?_)
  · have : n = 0 := by
      refine Classical.byContradiction fun hn0 => ?_
      obtain ⟨b, o, hA, _⟩ := h.2 hn0
      rw [hA] at h0; cases h0
    subst this
    have : l = [] := List.length_eq_zero_iff.1 hl
    subst this
    exact ⟨Fr.refl _ _, none, 0, rfl, Row.nil _ _ _ _⟩
  · have f1 : Fr (fun _ => False) w (w.alloc (.cells ([] : List Value).toArray 3)) := Fr.alloc _ _ _
    have r1 : Row (w.alloc (.cells ([] : List Value).toArray 3)) w.heap.size 3 1 (some ⟨w.heap.size, 0, none⟩) 0 0 [] := Row.new (Nat.le_refl _) rfl
    have hs : (w.alloc (.cells ([] : List Value).toArray 3)).heap.size = w.heap.size + 1 := alloc_size _ _
    generalize w.alloc (.cells ([] : List Value).toArray 3) = w1 at f1 r1 hs ⊢
    refine app_row r1 (sl_fr h f1).src (ivs_one l) rfl (by omega) (by omega) (by omega) (fun A' c' w' hr' f' => ⟨?_, A', c', ?_, ?_⟩)
    · exact f1.trans f' (fun _ _ h => h) (fun k hk h' => by simp only [blkOf, Option.some.injEq] at h'; omega)
    · rw [Nat.zero_add]
    · rw [Nat.zero_add, List.nil_append] at hr'; exact hr'
set_option maxRecDepth 10000 in
theorem fresh_calls {P : Nat → Prop} (e : Tn) (x0 : List Value) (w : World) (h : TnP P w x0 e) (hn : e.l.length ≤ 4294967296) :
    Calls Tryz.prog 82 #[ofL x0] w fun r w' => Fr (fun _ => False) w w' ∧ ∃ cs, r = .returned (ofL cs) ∧ TnP (fun k => w.heap.size ≤ k) w' cs e := by
  refine (F82.of x0 w (Q := fun v w' => Fr (fun _ => False) w w' ∧ ∃ cs, v = ofL cs ∧ TnP (fun k => w.heap.size ≤ k) w' cs e) ?_).mono (fun e w' ⟨v, he, hf, cs, hv, h⟩ => ⟨hf, cs, by rw [he, hv], h⟩)
  obtain ⟨A, n, c, rfl, hs, hd, _⟩ := h
  have hl := sl_n hs
  refine nw2 (fun b1 b5 u f r1 r5 hb1w hb5w n15 => ?_)
  have r1' : RecAt u b1 _ ([.string e.nm] ++ (e.d.map bv ++ [.bool e.g, .int .i64 e.s, .int .i64 e.o, .int .i64 e.q, .slice A n c])) := r1
  have hb1 := r1.lt
  have hb5 := r5.lt
  refine ⟨A, n, c, rec_end r1' (bvl hd) (j := 4) rfl rfl, (clI_calls A n c e.l u (sl_fr hs f) (by omega)).mono ?_⟩
  rintro r v ⟨g, A', c', rfl, hr⟩
  refine ⟨_, _, _, rfl, ?_⟩
  have r1v := r1.fr g (fun h => h)
  refine r1v.st_mk (o := 0 + 37) (by simp [Tn.cs, hd]) (fun v hv => by simp at hv; subst hv; rfl) (fun r f1 => ?_)
  have hsp := Tn.splice_l e A A' n n c c' e.l hd
  have r : RecAt (stB v b1 (0 + 37) [Value.slice A' n c']) b1 53 (e.cs A' n c') := by rw [← hsp]; exact r
  generalize stB v b1 (0 + 37) [Value.slice A' n c'] = v2 at r f1 ⊢
  refine ⟨_, by simp [Tn.cs, hd], rec_all r, gd_mk (by simp [Tn.cs, hd]) ?_⟩
  have r5v := (r5.fr g (fun h => h)).fr f1 (fun h => n15 h.symm)
  have hr2 := f1.row hr (fun k hk h' => by have := (hr.blt hk).1; omega)
  exact st_all r5v z35 (by simp [Tn.cs, hd]) (e.one A' _ c') (fun w' f5 r5' => ⟨fr_own (fr_own (f.trans1 g) f1 hb1w) f5 hb5w, _, rfl, A', _, c', rfl, sl_fr1 hr2 f5 hb5, hd, fun _ k hk => Nat.le_trans f.size (hr.blt hk).1⟩)
end Go.Proofs.YthcclmlbkfadcaaGreat.Tg
/- chapter 21: the table; put, New, Get -/
namespace Go.Proofs.YthcclmlbkfadcaaGreat.Tg
open Go.GV Go.RowKit Go.Lib
set_option linter.unusedVariables false
set_option linter.unusedSimpArgs false
/-- append to a slice that is full: a new row -/
theorem app_full {w : World} {e : TypeId} {sz bytes : Nat} {z : List Value} {A : Option Addr} {n : Nat} {x : Value} {old us : List Value} {m : Nat} {K : Option Addr → Nat → Nat → World → Prop}
    (hr : Sl w sz A n old) (hx : srcOf w sz x m us) (h1 : ∀ v ∈ us, v.oneCell' = true) (hz : z.length = sz) (hb : (n + m) * bytes ≤ 140737488355328) (hm : n + m ≤ 9223372036854775807) (hm0 : m ≠ 0)
    (hK : ∀ b c' w', Row w' w.heap.size e sz (some ⟨b, 0, none⟩) (n + m) c' (old ++ us) → Fr (fun _ => False) w w' → K (some ⟨b, 0, none⟩) (n + m) c' w') : app w sz bytes z e A n n x K := by
  have hul : us.length = m * sz := by
    unfold srcOf at hx
    split at hx
    · obtain ⟨rfl, h, _⟩ := hx; exact h
    · obtain ⟨rfl, rfl, rfl⟩ := hx; simp
    · exact hx.elim
  refine ⟨m, us, hx, h1, hb, hm, fun hle => by omega, fun hlt => ⟨old, hr.src, fun cap hc1 hc2 => ?_⟩⟩
  refine hK _ _ _ ⟨by rw [List.length_append, hr.1, hul, Nat.add_mul], hc1, .inr ⟨_, _, rfl, ?_, heap_alloc_at _ _, ?_, ?_⟩⟩ ?_
  · exact Nat.le_refl _
  · simp only [List.size_toArray, List.length_append, zeros_length, hr.1, hul, hz, ← Nat.add_mul]
    congr 1; omega
  · simp only [List.append_assoc]
    rw [← List.append_assoc, List.take_append_of_le_length (by rw [List.length_append, hr.1, hul, ← Nat.add_mul]; exact Nat.le_refl _), List.take_of_length_le (by rw [List.length_append, hr.1, hul, ← Nat.add_mul]; exact Nat.le_refl _)]
  · exact (Fr.drew _ w).trans1 (Fr.alloc _ _ _)
theorem slA_some (b m l sz : Nat) (h : m ≠ l) : slA (some (⟨b, 0, none⟩ : Addr)) m l sz = some ⟨b, 0 + l * sz, none⟩ := by
  unfold slA
  rw [if_neg h, Option.map_some, add_none]
theorem row_tail {w : World} {B : Nat} {e : TypeId} {sz : Nat} {A : Option Addr} {n c i : Nat} {vs : List Value} (hr : Row w B e sz A n c vs) (hi : i ≤ n) : Sl w sz (slA A c i sz) (n - i) (vs.drop (i * sz)) := by
  refine ⟨by rw [List.length_drop, hr.len, Nat.sub_mul], fun h0 => ?_⟩
  obtain ⟨b, o, hA, hc⟩ := hr.sl.2 (by omega)
  have hle := hr.le
  rcases hr.at_ with ⟨rfl, h1, _⟩ | ⟨b', cs, rfl, _⟩
  · omega
  · injection hA with hA
    injection hA with hb ho
    subst hb; subst ho
    rw [slA_some _ _ _ _ (by omega)]
    refine ⟨b', _, rfl, fun j v hj => ?_⟩
    rw [List.getElem?_drop] at hj
    have := hc _ v hj
    rw [Nat.add_assoc]; exact this
theorem row_head {w : World} {B : Nat} {e : TypeId} {sz : Nat} {A : Option Addr} {n c i : Nat} {vs : List Value} (hr : Row w B e sz A n c vs) (hi : i ≤ n) : Sl w sz (slA A i 0 sz) i (vs.take (i * sz)) := by
  have hmul : i * sz ≤ n * sz := Nat.mul_le_mul_right _ hi
  refine ⟨by rw [List.length_take, hr.len]; omega, fun h0 => ?_⟩
  obtain ⟨b, o, hA, hc⟩ := hr.sl.2 (by omega)
  rcases hr.at_ with ⟨rfl, h1, _⟩ | ⟨b', cs, rfl, _⟩
  · omega
  · injection hA with hA
    injection hA with hb ho
    subst hb; subst ho
    rw [slA_some _ _ _ _ (by omega)]
    refine ⟨b', _, rfl, fun j v hj => ?_⟩
    rw [List.getElem?_take] at hj
    split at hj
    · rw [Nat.zero_mul]; exact hc _ v hj
    · cases hj
/-- the table -/
structure Tab (X : Nat → Prop) (w : World) (base tb : Nat) (R : Option Addr) (n c : Nat) (l : List Tn) : Prop where
  rc : RecAt w tb 133 [.slice R n c]
  ot : OT (fun k => k ≠ tb ∧ X k) w base R n c l
  ne : blkOf R ≠ some tb
  ba : base ≤ tb
/-- the blocks of a table -/
def DT (tb : Nat) (R : Option Addr) : Nat → Prop := fun k => k = tb ∨ blkOf R = some k
theorem Tab.fr {X : Nat → Prop} {w w' : World} {base tb : Nat} {R : Option Addr} {n c : Nat} {l : List Tn} {D : Nat → Prop} (h : Tab X w base tb R n c l) (f : Fr D w w') (hD : ∀ k, base ≤ k → k < w.heap.size → ¬ D k) (hP : ∀ k, ¬ D k) : Tab X w' base tb R n c l :=
  ⟨h.rc.fr f (hP _), h.ot.fr f (fun k _ => hP k) (fun k _ => hP k), h.ne, h.ba⟩
theorem Tab.fr0 {X : Nat → Prop} {w w' : World} {base tb : Nat} {R : Option Addr} {n c : Nat} {l : List Tn} (h : Tab X w base tb R n c l) (f : Fr (fun _ => False) w w') : Tab X w' base tb R n c l :=
  ⟨h.rc.fr f (fun h => h), h.ot.fr0 f, h.ne, h.ba⟩
theorem Tab.monoX {X X' : Nat → Prop} {w : World} {base tb : Nat} {R : Option Addr} {n c : Nat} {l : List Tn} (h : Tab X w base tb R n c l) (hX : ∀ k, k < w.heap.size → X k → X' k) : Tab X' w base tb R n c l :=
  ⟨h.rc, h.ot.mono (Nat.le_refl _) (fun k hk h => ⟨h.1, hX k hk h.2⟩), h.ne, h.ba⟩
/-- off a frame -/
theorem Tab.off {X D : Nat → Prop} {w w' : World} {base tb : Nat} {R : Option Addr} {n c : Nat} {l : List Tn} (h : Tab X w base tb R n c l) (f : Fr D w w') (hD : ∀ k, DT tb R k → ¬ D k) (hX : ∀ k, X k → ¬ D k) : Tab X w' base tb R n c l :=
  ⟨h.rc.fr f (hD _ (.inl rfl)), h.ot.fr f (fun k hk => hX k hk.2) (fun k hk => hD k (.inr hk)), h.ne, h.ba⟩
theorem Tab.cell {X : Nat → Prop} {w : World} {base tb : Nat} {R : Option Addr} {n c : Nat} {l : List Tn} (h : Tab X w base tb R n c l) : cellAt w tb 0 = some (.slice R n c) := h.rc.cell rfl
theorem Tab.len {X : Nat → Prop} {w : World} {base tb : Nat} {R : Option Addr} {n c : Nat} {l : List Tn} (h : Tab X w base tb R n c l) : l.length = n := h.ot.rt.len
theorem Tab.lt {X : Nat → Prop} {w : World} {base tb : Nat} {R : Option Addr} {n c : Nat} {l : List Tn} (h : Tab X w base tb R n c l) {k : Nat} (hk : DT tb R k) : base ≤ k ∧ k < w.heap.size := by
  rcases hk with rfl | hk
  · exact ⟨h.ba, h.rc.lt⟩
  · exact h.ot.blt hk
theorem place_calls {X : Nat → Prop} (base tb : Nat) (R : Option Addr) (n c : Nat) (l : List Tn) (nm : ByteArray) (w : World) (h : Tab X w base tb R n c l) (ha : AscT l) (hn : n ≤ 17179869184) :
    Calls Tryz.prog 97 #[.pointer (some ⟨tb, 0, none⟩), .string nm] w fun e w' => Fr (fun _ => False) w w' ∧ ∃ i : Nat, e = .returned (.tuple #[.int .i64 i, .bool (isAt nm i l)]) ∧ Pl nm i l := by
  refine (F97.of (some ⟨tb, 0, none⟩) nm w (Q := fun v w' => Fr (fun _ => False) w w' ∧ ∃ i : Nat, v = .tuple #[.int .i64 i, .bool (isAt nm i l)] ∧ Pl nm i l) ?_).mono (fun e w' ⟨v, he, hf, i, hv, h⟩ => ⟨hf, i, by rw [he, hv], h⟩)
  refine dr_mk ⟨R, n, c, h.cell, (bsT_calls R n c l nm w h.ot.rt ha hn).mono ?_⟩
  rintro e w2 ⟨f2, i, rfl, hp⟩
  exact ⟨_, _, rfl, f2, i, rfl, hp⟩
/-- Clone of a row of a table -/
theorem clT_calls (P : Nat → Prop) (A : Option Addr) (n c : Nat) (vs : List Value) (l : List Tn) (w : World) (h : Sl w 38 A n vs) (ht : TRow P w vs l) (hn : n ≤ 1073741824) :
    Calls Tryz.prog 114 #[.slice A n c] w fun e w' => Fr (fun _ => False) w w' ∧ ∃ A' c', e = .returned (.slice A' n c') ∧ Row w' w.heap.size 53 38 A' n c' vs := by
  refine (F114.of A n c w (Q := fun v w' => Fr (fun _ => False) w w' ∧ ∃ A' c', v = .slice A' n c' ∧ Row w' w.heap.size 53 38 A' n c' vs) ?_).mono (fun e w' ⟨v, he, hf, A', c', hv, h⟩ => ⟨hf, A', c', by rw [he, hv], h⟩)
  refine vIf_mk (fun h0 => ?_) (fun h0 => nw_mk ?_)
  · have : n = 0 := by
      refine Classical.byContradiction fun hn0 => ?_
      obtain ⟨b, o, hA, _⟩ := h.2 hn0
      rw [hA] at h0; cases h0
    subst this
    have : vs = [] := List.length_eq_zero_iff.1 (by have := h.1; omega)
    subst this
    exact ⟨Fr.refl _ _, none, 0, rfl, Row.nil _ _ _ _⟩
  · have f1 : Fr (fun _ => False) w (w.alloc (.cells ([] : List Value).toArray 53)) := Fr.alloc _ _ _
    have r1 : Row (w.alloc (.cells ([] : List Value).toArray 53)) w.heap.size 53 38 (some ⟨w.heap.size, 0, none⟩) 0 0 [] := Row.new (Nat.le_refl _) rfl
    have hs : (w.alloc (.cells ([] : List Value).toArray 53)).heap.size = w.heap.size + 1 := alloc_size _ _
    generalize w.alloc (.cells ([] : List Value).toArray 53) = w1 at f1 r1 hs ⊢
    refine app_row r1 (f1.sl h (fun _ _ _ h => h)).src ht.ones rfl (by omega) (by omega) (by omega) (fun A' c' w' hr' f' => ⟨?_, A', c', ?_, ?_⟩)
    · exact f1.trans f' (fun _ _ h => h) (fun k hk h' => by simp only [blkOf, Option.some.injEq] at h'; omega)
    · rw [Nat.zero_add]
    · rw [Nat.zero_add, List.nil_append] at hr'; exact hr'
theorem isAt_lt {nm : ByteArray} {i : Nat} {l : List Tn} (h : isAt nm i l = true) : i < l.length := by
  unfold isAt at h
  split at h
  · exact (List.getElem?_eq_some_iff.1 (by assumption)).1
  · cases h
set_option maxHeartbeats 1000000 in
set_option maxRecDepth 10000 in
theorem putT_calls {X : Nat → Prop} (base tb : Nat) (R : Option Addr) (n c : Nat) (l : List Tn) (e : Tn) (cs : List Value) (w : World) (h : Tab X w base tb R n c l) (ha : AscT l) (he : TnP (fun k => ¬ DT tb R k ∧ X k) w cs e) (hB : base ≤ w.heap.size) (hn : n ≤ 1000000000) :
    Calls Tryz.prog 81 #[.pointer (some ⟨tb, 0, none⟩), ofL cs] w fun r w' => r = .returned (.tuple #[]) ∧ Fr (DT tb R) w w' ∧ ∃ R' n' c', Tab X w' base tb R' n' c' (setR e l) ∧ ∀ k, blkOf R' = some k → blkOf R = some k ∨ w.heap.size ≤ k := by
  refine (F81.of (some ⟨tb, 0, none⟩) cs w (Q := fun v w' => v = .tuple #[] ∧ Fr (DT tb R) w w' ∧ ∃ R' n' c', Tab X w' base tb R' n' c' (setR e l) ∧ ∀ k, blkOf R' = some k → blkOf R = some k ∨ w.heap.size ≤ k) ?_).mono (fun e w' ⟨v, he, hv, h⟩ => ⟨by rw [he, hv], h⟩)
  have hl := h.len
  refine nw_mk ?_
  have f1 : Fr (fun _ => False) w (w.alloc (.cells cs.toArray 53)) := Fr.alloc _ _ _
  have r1 := RecAt.new w cs 53
  generalize w.alloc (.cells cs.toArray 53) = w1 at f1 r1 ⊢
  refine ⟨e.nm, c_nm he (rec_all r1), (place_calls base tb R n c l e.nm w1 (h.fr0 f1) ha (by omega)).mono ?_⟩
  rintro r w2 ⟨f2, i, rfl, hp⟩
  have f12 := f1.trans1 f2
  have hil := hp.1
  have hset := pl_set e l i hp
  refine ⟨_, _, rfl, vIf_mk (fun hat => ?_) (fun hat => ?_)⟩
  · rw [if_pos hat] at hset
    have hlt := isAt_lt hat
    have f := f12.trans1 (Fr.drew _ w2)
    have r1 := r1.fr f2 (fun h => h)
    have r1 : RecAt w2.drew _ _ _ := r1
    have hT := h.fr0 f
    have he2 := he.fr0 f
    generalize w2.drew = u at f r1 hT he2 ⊢
    refine dr_mk ⟨R, n, c, hT.cell, cs, he.len, rec_all r1, ?_⟩
    obtain ⟨rc, ⟨vs, hv, ht⟩, hne, hba⟩ := hT
    obtain ⟨b, o, hR, _⟩ := hv.sl.2 (by omega)
    have hR2 : R = some ⟨b, 0, none⟩ := by
      rcases hv.at_ with ⟨h0, _⟩ | ⟨b', _, h0, _⟩
      · rw [h0] at hR; cases hR
      · rw [h0] at hR; injection hR with hR; injection hR with hb ho; rw [h0, hb]
    subst hR2
    refine dr_mk (gd_mk (decide_eq_true (by omega)) (gd_mk (decide_eq_true (by omega)) (gd_mk (by rw [he.len]; rfl) ?_)))
    show st u b (0 + ((i : Int)).toNat * 38) _ _
    rw [Int.toNat_natCast]
    refine row_put (A := some ⟨b, 0, none⟩) (o' := i * 38) hv (by omega) (by have := he.len; omega) he.one (fun u2 hv2 g2 => ⟨rfl, ?_, some ⟨b, 0, none⟩, n, c, ⟨rc.fr g2 (fun h => hne h), ⟨_, hv2, ?_⟩, hne, hba⟩, fun k hk => .inl hk⟩)
    · exact (f.mono (fun _ _ h => h.elim)).trans1 (g2.mono (fun k _ hk => .inr hk))
    · rw [hset]
      refine (TRow.set (ht.fr g2 (fun k hk h => hk.1 h)) ?_ (by omega))
      refine (he2.mono (P' := fun k => blkOf (some (⟨b, 0, none⟩ : Addr)) ≠ some k ∧ k ≠ tb ∧ X k) (fun k _ hk => ⟨fun h => hk.1 (.inr h), fun h => hk.1 (.inl h), hk.2⟩)).fr g2 (fun k hk h => hk.1 h)
  · have hat : isAt e.nm i l = false := hat
    rw [if_neg (by rw [hat]; decide)] at hset
    have hT := h.fr0 f12
    have r1 := r1.fr f2 (fun h => h)
    have he2 := he.fr0 f12
    refine dr_mk ⟨R, n, c, hT.cell, gd_mk (decide_eq_true (by omega)) (gd_mk (decide_eq_true (by omega)) ?_)⟩
    obtain ⟨rc, ⟨vs, hv, ht⟩, hne, hba⟩ := hT
    rw [Int.toNat_natCast]
    have hle := hv.le
    refine (clT_calls _ (slA R c i 38) (n - i) (c - i) (vs.drop (i * 38)) (l.drop i) w2 (row_tail hv (by omega)) (ht.drop i) (by omega)).mono ?_
    rintro r w3 ⟨f3, A4, c4, rfl, h4⟩
    refine ⟨_, _, _, rfl, ?_⟩
    have f3d := f3.trans1 (Fr.drew _ w3)
    have r1 := r1.fr f3 (fun h => h)
    have r1 : RecAt w3.drew _ _ _ := r1
    have rc := rc.fr f3 (fun h => h)
    have rc : RecAt w3.drew _ _ _ := rc
    have hv := f3d.row hv (fun _ _ h => h)
    have ht := ht.fr f3d (fun _ _ h => h)
    have he3 := he2.fr0 f3d
    have h4 : Row w3.drew w2.heap.size _ 38 A4 (n - i) c4 _ := (Fr.drew (fun _ => False) w3).row h4 (fun _ _ h => h)
    have hsz := f3d.size
    generalize w3.drew = u at f3d r1 rc hv ht he3 h4 hsz ⊢
    refine dr_mk ⟨R, n, c, rc.cell rfl, gd_mk (decide_eq_true (by omega)) (gd_mk (decide_eq_true (by omega)) (gd_mk (decide_eq_true (by omega)) (gd_mk (decide_eq_true (by omega)) ⟨cs, he.len, rec_all r1, gd_mk (by rw [he.len]; rfl) (nw_mk ?_)⟩)))⟩
    rw [List.append_nil]
    have g1 : Fr (fun _ => False) u (u.alloc (.cells cs.toArray 53)) := Fr.alloc _ _ _
    have q1 : Row (u.alloc (.cells cs.toArray 53)) 0 53 38 (some ⟨u.heap.size, 0, none⟩) 1 1 cs := Row.new (Nat.zero_le _) (by rw [he.len])
    have hlb := rc.lt
    generalize u.alloc (.cells cs.toArray 53) = u1 at g1 q1 ⊢
    refine kp_mk g1 hlb (fun h => h) ?_
    have hv1 := g1.row hv (fun _ _ h => h)
    refine app_full (row_head hv1 (by omega)) q1.sl.src he.one rfl (by omega) (by omega) (by decide) (fun b' c' u2 p2 k2 => ?_)
    have g2 := g1.trans1 k2
    have h42 := g2.row h4 (fun _ _ h => h)
    have ht2 := ht.fr g2 (fun _ _ h => h)
    have he5 := he3.fr0 g2
    have gs := g1.size
    have hpb := p2.blt (b := b') rfl
    have hk2 := k2.size
    have ones := (ht.drop i).ones
    have hall := ((ht.take i).app ((TRow.one (he3.mono (P' := fun k => blkOf R ≠ some k ∧ k ≠ tb ∧ X k) (fun k _ hk => ⟨fun h => hk.1 (.inr h), fun h => hk.1 (.inl h), hk.2⟩))))).app (ht.drop i)
    rw [← hset] at hall
    have hsz12 := f12.size
    have hall := (hall.mono (P' := fun k => (k ≠ tb ∧ X k) ∧ k < u.heap.size) (fun k hk h => ⟨h.2, hk⟩)).fr g2 (fun _ _ h => h)
    have rc2 := rc.fr g2 (fun h => h)
    refine app_row2 p2 h42.sl.src ones rfl (by omega) (by omega) (by omega) (fun A5 c5 u5 p5 k5 hnew => ?_)
    have rc5 := rc2.fr k5 (fun h => by simp only [blkOf, Option.some.injEq] at h; omega)
    have hall := hall.fr k5 (fun k hk h => by simp only [blkOf, Option.some.injEq] at h; have := hk.2; omega)
    have p5b : ∀ k, blkOf A5 = some k → u1.heap.size ≤ k := fun k hk => (p5.blt hk).1
    refine dr_mk (rc5.st_mk (o := 0) (by simp) (fun v hv => by simp at hv; subst hv; rfl) (fun rc6 k6 => ⟨rfl, ?_, A5, _, c5, ⟨rc6, ⟨_, row_low (by omega) (k6.row p5 (fun k hk h => by have := p5b k hk; omega)), ?_⟩, fun h => by have := p5b _ h; omega, hba⟩, fun k hk => .inr (by have := p5b k hk; omega)⟩))
    · have k25 : Fr (fun _ => False) u1 u5 := k2.trans k5 (fun _ _ h => h) (fun k hk h => by simp only [blkOf, Option.some.injEq] at h; omega)
      exact (((f12.trans1 f3d).trans1 (g1.trans1 k25)).mono (fun _ _ h => h.elim)).trans1 (k6.mono (fun k _ hk => .inl hk))
    · refine (hall.fr k6 (fun k hk h => hk.1.1 h)).mono (fun k hk h => ⟨fun h' => ?_, h.1⟩)
      have := p5b k h'
      have := h.2
      omega
end Go.Proofs.YthcclmlbkfadcaaGreat.Tg
/- chapter 21: New, Get, Row, Keep of the program -/
namespace Go.Proofs.YthcclmlbkfadcaaGreat.Tg
open Go.GV Go.RowKit Go.Lib
set_option linter.unusedVariables false
set_option linter.unusedSimpArgs false
def Bd (M : Nat) (l : List Tn) : Prop := ∀ e ∈ l, e.l.length ≤ M
theorem Bd.at {M : Nat} {l : List Tn} (h : Bd M l) {i : Nat} {e : Tn} (hi : l[i]? = some e) : e.l.length ≤ M := h e (List.mem_of_getElem? hi)
theorem Bd.set {M : Nat} {l : List Tn} (h : Bd M l) {e : Tn} (he : e.l.length ≤ M) : Bd M (setR e l) := fun x hx => by
  rcases setR_mem e l x hx with rfl | hx
  · exact he
  · exact h x hx
def newT (l : List Tn) : List Tn := l.foldl (fun t e => setR e t) []
theorem newT_step {l : List Tn} {i : Nat} {e : Tn} (h : l[i]? = some e) : newT (l.take (i + 1)) = setR e (newT (l.take i)) := by
  unfold newT
  rw [List.take_add_one, h, List.foldl_append]
  rfl
theorem newT_asc (l : List Tn) : ∀ i, AscT (newT (l.take i))
  | 0 => by rw [List.take_zero]; exact List.Pairwise.nil
  | i + 1 => by
    cases h : l[i]? with
    | none =>
      rw [List.take_add_one, h, Option.toList_none, List.append_nil]; exact newT_asc l i
    | some e => rw [newT_step h]; exact setR_asc e (newT_asc l i)
theorem newT_len (l : List Tn) : ∀ i, (newT (l.take i)).length ≤ i
  | 0 => by rw [List.take_zero]; exact Nat.le_refl _
  | i + 1 => by
    have := newT_len l i
    cases h : l[i]? with
    | none =>
      rw [List.take_add_one, h, Option.toList_none, List.append_nil]; omega
    | some e => rw [newT_step h]; have := setR_len e (newT (l.take i)); omega
/-- over a table's own blocks -/
theorem tab_fr {X : Nat → Prop} {w u v : World} {tb : Nat} {R : Option Addr} {n c : Nat} {l : List Tn} (f : Fr (fun _ => False) w u) (h : Tab X u w.heap.size tb R n c l) (g : Fr (DT tb R) u v) : Fr (fun _ => False) w v :=
  f.trans g (fun _ _ h => h) (fun k hk h' => by have := (h.lt h').1; omega)
theorem Tab.out {X : Nat → Prop} {w w' : World} {base tb : Nat} {R : Option Addr} {n c : Nat} {l : List Tn} {D : Nat → Prop} (h : Tab X w base tb R n c l) (f : Fr D w w') (hD : ∀ k, k < w.heap.size → ¬ D k) : Tab X w' base tb R n c l := by
  obtain ⟨rc, ⟨vs, hv, ht⟩, hne, hba⟩ := h
  refine ⟨rc.fr f (hD _ rc.lt), ⟨vs, f.row hv (fun k hk => hD k (hv.blt hk).2), ?_⟩, hne, hba⟩
  refine ((ht.mono (P' := fun k => (blkOf R ≠ some k ∧ k ≠ tb ∧ X k) ∧ k < w.heap.size) (fun k hk h => ⟨h, hk⟩)).fr f (fun k hk => hD k hk.2)).mono (fun k _ h => h.1)
set_option maxRecDepth 10000 in
theorem newT_calls {X P : Nat → Prop} (A : Option Addr) (n c : Nat) (l : List Tn) (w : World) (h : RT P w A n l) (hn : n ≤ 1000000000) (hb : Bd 4294967296 l) (hX : ∀ k, w.heap.size ≤ k → X k) :
    Calls Tryz.prog 41 #[.slice A n c] w fun e w' => Fr (fun _ => False) w w' ∧ ∃ tb R n' c', e = .returned (.pointer (some ⟨tb, 0, none⟩)) ∧ Tab X w' w.heap.size tb R n' c' (newT l) := by
  refine (F41.of A n c w (Q := fun v w' => Fr (fun _ => False) w w' ∧ ∃ tb R n' c', v = .pointer (some ⟨tb, 0, none⟩) ∧ Tab X w' w.heap.size tb R n' c' (newT l)) ?_).mono (fun e w' ⟨v, he, hf, a, b, c, d, hv, h⟩ => ⟨hf, a, b, c, d, by rw [he, hv], h⟩)
  have hl := h.len
  refine nw_mk ?_
  rw [List.append_nil]
  have f1 : Fr (fun _ => False) w (w.alloc (.cells [Value.slice none 0 0].toArray 133)) := Fr.alloc _ _ _
  have r1 := RecAt.new w [Value.slice none 0 0] 133
  generalize w.alloc (.cells [Value.slice none 0 0].toArray 133) = w1 at f1 r1 ⊢
  refine jnC_mk (loop_rule (fun s u => Fr (fun _ => False) w u ∧ ∃ (i : Nat) (R : Option Addr) (n' c' : Nat), i ≤ n ∧ s = ((w.heap.size, 0), (A, n, c), (n : Int), (i : Int), ()) ∧ Tab X u w.heap.size w.heap.size R n' c' (newT (l.take i)))
    (fun s _ => (n - s.2.2.2.1).toNat) ?_ _ _ ⟨f1, 0, none, 0, 0, by omega, rfl, ⟨r1, OT.nil _ _ _, by simp [blkOf], Nat.le_refl _⟩⟩)
  rintro s u C ⟨hf, i, R, n', c', hi, rfl, hT⟩ hC _
  refine vIf_mk (fun hlt => ?_) (fun hge => ?_)
  · have hlt2 : (i : Int) < (n : Int) := of_decide_eq_true hlt
    have gi : l[i]? = some (l[i]'(by omega)) := List.getElem?_eq_getElem (by omega)
    generalize l[i]'(by omega) = x at gi
    refine t_rd (h.fr0 hf) gi (fun b o cs hA hTn hc => ⟨cs, hTn.len, hc, var_mk z35 hTn.len hTn.one (fun b6 u1 g1 r6 => ⟨cs, hTn.len, rec_all r6, (fresh_calls x cs u1 (hTn.fr0 g1) (hb.at gi)).mono ?_⟩)⟩)
    rintro r u2 ⟨g2, cs2, rfl, hT2⟩
    have g12 := g1.trans1 g2
    have hTu := hT.fr0 g12
    have hlen := newT_len l i
    have htl := hTu.len
    have hTs := hT.fr0 g1
    have hsx := (hf.trans1 g1).size
    refine ⟨_, rfl, (putT_calls w.heap.size w.heap.size R n' c' (newT (l.take i)) x cs2 u2 hTu (newT_asc l i) (hT2.mono (fun k _ hk => ⟨fun h' => by have := (hTs.lt h').2; omega, hX k (by omega)⟩)) (hf.trans1 g12).size (by omega)).mono ?_⟩
    rintro r u3 ⟨rfl, g3, R3, n3, c3, h3, _⟩
    rw [← newT_step gi] at h3
    refine ⟨rfl, jnC_mk (hC _ _ ⟨tab_fr (hf.trans1 g12) hTu g3, i + 1, R3, n3, c3, by omega, by rw [ei i (by omega)], h3⟩ ?_)⟩
    show ((n : Int) - IntKind.wrap .i64 ((i : Int) + 1)).toNat < ((n : Int) - (i : Int)).toNat
    rw [ei i (by omega)]; omega
  · have hge2 : ¬ (i : Int) < (n : Int) := of_decide_eq_false hge
    rw [List.take_of_length_le (by omega)] at hT
    exact ⟨hf, _, R, n', c', rfl, hT⟩
theorem zTp {P : Nat → Prop} (w : World) : TnP P w (zT.cs none 0 0) zT := ⟨none, 0, 0, rfl, Sl.nil _ _ _, rfl, fun h => absurd rfl h⟩
set_option maxRecDepth 10000 in
theorem getT_calls {X : Nat → Prop} (base tb : Nat) (R : Option Addr) (n c : Nat) (l : List Tn) (nm : ByteArray) (w : World) (h : Tab X w base tb R n c l) (ha : AscT l) (hn : n ≤ 1000000000) (hb : Bd 4294967296 l) :
    Calls Tryz.prog 59 #[.pointer (some ⟨tb, 0, none⟩), .string nm] w fun e w' => Fr (fun _ => False) w w' ∧ ∃ cs, e = .returned (.tuple #[ofL cs, .bool (getR nm l).2]) ∧ TnP (fun k => w.heap.size ≤ k) w' cs (getR nm l).1 := by
  refine (F59.of (some ⟨tb, 0, none⟩) nm w (Q := fun v w' => Fr (fun _ => False) w w' ∧ ∃ cs, v = .tuple #[ofL cs, .bool (getR nm l).2] ∧ TnP (fun k => w.heap.size ≤ k) w' cs (getR nm l).1) ?_).mono (fun e w' ⟨v, he, hf, cs, hv, h⟩ => ⟨hf, cs, by rw [he, hv], h⟩)
  refine nw_mk ?_
  have f1 : Fr (fun _ => False) w (w.alloc (.cells Z53.toArray 53)) := Fr.alloc _ _ _
  have r1 := RecAt.new w Z53 53
  generalize w.alloc (.cells Z53.toArray 53) = w1 at f1 r1 ⊢
  have hl := h.len
  refine vIf_f rfl ((place_calls base tb R n c l nm w1 (h.fr0 f1) ha (by omega)).mono ?_)
  rintro r w2 ⟨f2, i, rfl, hp⟩
  have f12 := f1.trans1 f2
  have hT := h.fr0 f12
  have r1 := r1.fr f2 (fun h => h)
  refine ⟨_, _, rfl, ?_⟩
  rcases pl_get ha hp with ⟨e, he, hat, hg⟩ | ⟨hat, hg⟩
  · rw [hat, hg]
    refine vIf_f rfl (dr_mk ⟨R, n, c, hT.cell, t_rd hT.ot.rt he (fun b o cs hA hTn hc => ⟨cs, hTn.len, hc, (fresh_calls e cs w2 hTn (hb.at he)).mono ?_⟩)⟩)
    rintro r w3 ⟨f3, cs3, rfl, h3⟩
    refine ⟨_, rfl, gd_mk (by rw [h3.len]; rfl) (st_all (r1.fr f3 (fun h => h)) z35 h3.len h3.one (fun w4 f4 r4 => ⟨fr_own (f12.trans1 f3) f4 (Nat.le_refl _), _, rfl, ?_⟩))⟩
    have hsz := f12.size
    refine (h3.fr f4 (fun k hk h' => ?_)).mono (fun k _ hk => by omega)
    have := r1.lt
    subst h'
    omega
  · rw [hat, hg]
    exact vIf_t rfl (gd_mk rfl (st_all r1 z35 rfl (zT.one none 0 0) (fun w4 f4 r4 => ⟨fr_own f12 f4 (Nat.le_refl _), _, rfl, zTp _⟩)))
set_option maxRecDepth 10000 in
theorem rowT_calls {X : Nat → Prop} (base tb : Nat) (R : Option Addr) (n c : Nat) (l : List Tn) (w : World) (h : Tab X w base tb R n c l) (hn : n ≤ 1000000000) (hb : Bd 4294967296 l) :
    Calls Tryz.prog 47 #[.pointer (some ⟨tb, 0, none⟩)] w fun e w' => Fr (fun _ => False) w w' ∧ ∃ A' c', e = .returned (.slice A' n c') ∧ OT (fun k => w.heap.size ≤ k) w' w.heap.size A' n c' l := by
  refine (F47.of (some ⟨tb, 0, none⟩) w (Q := fun v w' => Fr (fun _ => False) w w' ∧ ∃ A' c', v = .slice A' n c' ∧ OT (fun k => w.heap.size ≤ k) w' w.heap.size A' n c' l) ?_).mono (fun e w' ⟨v, he, hf, a, b, hv, h⟩ => ⟨hf, a, b, by rw [he, hv], h⟩)
  have hl := h.len
  refine vIf_f rfl (dr_mk ⟨R, n, c, h.cell, jnC_mk (loop_rule (fun s u => Fr (fun _ => False) w u ∧ ∃ (i : Nat) (A5 : Option Addr) (c5 : Nat), i ≤ n ∧ s = ((A5, i, c5), (R, n, c), (n : Int), (i : Int), ()) ∧ OT (fun k => w.heap.size ≤ k) u w.heap.size A5 i c5 (l.take i))
    (fun s _ => (n - s.2.2.2.1).toNat) ?_ _ _ ⟨Fr.refl _ _, 0, none, 0, by omega, rfl, OT.nil _ _ _⟩)⟩)
  rintro s u C ⟨hf, i, A5, c5, hi, rfl, hO⟩ hC _
  refine vIf_mk (fun hlt => ?_) (fun hge => ?_)
  · have hlt2 : (i : Int) < (n : Int) := of_decide_eq_true hlt
    have gi : l[i]? = some (l[i]'(by omega)) := List.getElem?_eq_getElem (by omega)
    generalize l[i]'(by omega) = x at gi
    refine t_rd (h.fr0 hf).ot.rt gi (fun b o cs hA hTn hc => ⟨cs, hTn.len, hc, var_mk z35 hTn.len hTn.one (fun b6 u1 g1 r6 => ⟨cs, hTn.len, rec_all r6, (fresh_calls x cs u1 (hTn.fr0 g1) (hb.at gi)).mono ?_⟩)⟩)
    rintro r u2 ⟨g2, cs2, rfl, hT2⟩
    have g12 := g1.trans1 g2
    have hO1 := hO.fr0 g1
    have hs := (hf.trans1 g1).size
    refine ⟨_, rfl, pushT (hO.fr0 g12) (hT2.mono (fun k _ hk => ⟨fun h' => by have := (hO1.blt h').2; omega, by omega⟩)) (hf.trans1 g12).size (by show i ≤ 1073741824; omega) (fun A' c' w' hO' f' hnew => ?_)⟩
    have hsn : l.take (i + 1) = l.take i ++ [x] := by rw [List.take_add_one, gi]; rfl
    refine jnC_mk (hC _ _ ⟨(hf.trans1 g12).trans f' (fun _ _ h => h) (fun k hk h' => by have := (hO.blt h').1; omega), i + 1, A', c', by omega, by rw [ei i (by omega)], by rw [hsn]; exact hO'⟩ ?_)
    show ((n : Int) - IntKind.wrap .i64 ((i : Int) + 1)).toNat < ((n : Int) - (i : Int)).toNat
    rw [ei i (by omega)]; omega
  · have hge2 : ¬ (i : Int) < (n : Int) := of_decide_eq_false hge
    rw [List.take_of_length_le (by omega)] at hO
    have : i = n := by omega
    subst this
    exact ⟨hf, A5, c5, rfl, hO⟩
end Go.Proofs.YthcclmlbkfadcaaGreat.Tg
/- chapter 21: DeleteFunc on a table; there, Count, List, Names -/
namespace Go.Proofs.YthcclmlbkfadcaaGreat.Tg
open Go.GV Go.RowKit Go.Lib
set_option linter.unusedVariables false
set_option linter.unusedSimpArgs false
/-! ### rows of texts -/
def svs (l : List ByteArray) : List Value := l.map Value.string
def listF (after : ByteArray) (n : Int) (l : List Tn) : List ByteArray := (namesB after l).take n.toNat
end Go.Proofs.YthcclmlbkfadcaaGreat.Tg
/- chapter 21: Apply; the document's Set, New, Get, Apply, Keep -/
namespace Go.Proofs.YthcclmlbkfadcaaGreat.Tg
open Go.GV Go.RowKit Go.Lib
set_option linter.unusedVariables false
set_option linter.unusedSimpArgs false
def applyL (x : Wd) (l : List Tn) : List Tn :=
  if x.k = 3 then setR (tagE (getR x.nm l).1 x) l else if x.k = 4 ∧ (getR x.nm l).2 = true then setR (untE (getR x.nm l).1 x) l else l
theorem applyL_asc (x : Wd) {l : List Tn} (h : AscT l) : AscT (applyL x l) := by
  unfold applyL
  split
  · exact setR_asc _ h
  · split
    · exact setR_asc _ h
    · exact h
theorem applyL_len (x : Wd) (l : List Tn) : (applyL x l).length ≤ l.length + 1 := by
  unfold applyL
  split
  · exact setR_len _ _
  · split
    · exact setR_len _ _
    · omega
theorem getR_bd {M : Nat} {l : List Tn} (h : Bd M l) (nm : ByteArray) : (getR nm l).1.l.length ≤ M := by
  unfold getR
  split
  · exact h _ (List.mem_of_find?_eq_some (by assumption))
  · exact Nat.zero_le _
theorem applyL_bd {M : Nat} {l : List Tn} (h : Bd M l) (x : Wd) : Bd (M + 1) (applyL x l) := by
  have h1 : Bd (M + 1) l := fun e he => by have := h e he; omega
  have hg := getR_bd h x.nm
  unfold applyL
  split
  · refine h1.set ?_
    show (norm ((getR x.nm l).1.l ++ [x.s])).length ≤ _
    have := norm_one_le (getR x.nm l).1.l x.s
    omega
  · split
    · refine h1.set ?_
      show (norm (getR x.nm l).1.l).length ≤ _
      have := norm_len (getR x.nm l).1.l
      omega
    · exact h1
theorem keepL_bd {M : Nat} {l : List Tn} (h : Bd M l) (sg : List Int) : Bd M (keepL sg l) := fun e he => by
  unfold keepL at he
  obtain ⟨x, hx, hx2⟩ := List.mem_filterMap.1 he
  split at hx2
  · injection hx2 with hx2
    subst hx2
    exact Nat.le_trans (keepT_len x sg) (h x hx)
  · cases hx2
theorem wd_len {x : Wd} (hx : x.d.length = 32) : x.cs.length = 39 := by simp [Wd.cs, hx]
set_option maxRecDepth 10000 in
theorem applyT_calls {X : Nat → Prop} (base tb : Nat) (R : Option Addr) (n c : Nat) (l : List Tn) (x : Wd) (w : World) (h : Tab X w base tb R n c l) (ha : AscT l) (hn : n ≤ 1000000000) (hb : Bd 4294967295 l) (hx : x.d.length = 32) (hB : base ≤ w.heap.size) (hX : ∀ k, w.heap.size ≤ k → X k) :
    Calls Tryz.prog 44 #[.pointer (some ⟨tb, 0, none⟩), ofL x.cs] w fun e w' => e = .returned (.tuple #[]) ∧ Fr (DT tb R) w w' ∧ ∃ R' n' c', Tab X w' base tb R' n' c' (applyL x l) ∧ ∀ k, blkOf R' = some k → blkOf R = some k ∨ w.heap.size ≤ k := by
  refine (F44.of (some ⟨tb, 0, none⟩) x.cs w (Q := fun v w' => v = .tuple #[] ∧ Fr (DT tb R) w w' ∧ ∃ R' n' c', Tab X w' base tb R' n' c' (applyL x l) ∧ ∀ k, blkOf R' = some k → blkOf R = some k ∨ w.heap.size ≤ k) ?_).mono (fun e w' ⟨v, he, hv, h⟩ => ⟨by rw [he, hv], h⟩)
  have hxl := wd_len hx
  have hb2 : Bd 4294967296 l := fun e he => by have := hb e he; omega
  refine nw_mk ?_
  have f1 : Fr (fun _ => False) w (w.alloc (.cells x.cs.toArray 37)) := Fr.alloc _ _ _
  have r1 : RecAt (w.alloc (.cells x.cs.toArray 37)) w.heap.size 37 ([.int .i64 x.k, .int .u64 x.sq] ++ (x.d.map bv ++ [.string x.nm, .int .i64 x.z, .int .i64 x.s, .int .i64 x.o, .int .i64 x.q])) := RecAt.new _ _ _
  generalize w.alloc (.cells x.cs.toArray 37) = w1 at f1 r1 ⊢
  refine vIf_f rfl ⟨x.nm, rec_end r1 (bvl hx) (j := 0) rfl rfl, (getT_calls base tb R n c l x.nm w1 (h.fr0 f1) ha hn hb2).mono ?_⟩
  rintro r w2 ⟨f2, cs2, rfl, h2⟩
  refine ⟨_, _, rfl, var_mk z35 h2.len h2.one (fun b8 u f3 r8 => ?_)⟩
  have f123 := (f1.trans1 f2).trans1 f3
  have r1 := r1.fr (f2.trans1 f3) (fun h => h)
  have hT := h.fr0 f123
  have h2u := h2.fr0 f3
  have hs := f123.size
  have hgb := getR_bd hb x.nm
  -- the put of what a deed gives
  have put : ∀ (y : Tn) (cs : List Value) (v : World), Fr (fun _ => False) u v → TnP (fun k => u.heap.size ≤ k) v cs y → setR y l = applyL x l → Calls Tryz.prog 81 #[.pointer (some ⟨tb, 0, none⟩), ofL cs] v fun e w' => e = .returned (.tuple #[]) ∧ (Value.tuple #[] = Value.tuple #[] ∧ Fr (DT tb R) w w' ∧ ∃ R' n' c', Tab X w' base tb R' n' c' (applyL x l) ∧ ∀ k, blkOf R' = some k → blkOf R = some k ∨ w.heap.size ≤ k) := by
    intro y cs v fv hy hset
    have g := f123.trans1 fv
    have hsz := fv.size
    refine (putT_calls base tb R n c l y cs v (hT.fr0 fv) ha (hy.mono (fun k _ hk => ⟨fun h' => by have := (hT.lt h').2; omega, hX k (by omega)⟩)) (by omega) hn).mono ?_
    rintro r w' ⟨rfl, g2, R', n', c', h3, hnew⟩
    refine ⟨rfl, rfl, (g.mono (fun _ _ h => h.elim)).trans1 g2, R', n', c', by rw [← hset]; exact h3, fun k hk => ?_⟩
    rcases hnew k hk with h' | h'
    · exact .inl h'
    · exact .inr (by omega)
  have same : applyL x l = l → Value.tuple #[] = Value.tuple #[] ∧ Fr (DT tb R) w u ∧ ∃ R' n' c', Tab X u base tb R' n' c' (applyL x l) ∧ ∀ k, blkOf R' = some k → blkOf R = some k ∨ w.heap.size ≤ k := fun he => ⟨rfl, f123.mono (fun _ _ h => h.elim), R, n, c, by rw [he]; exact hT, fun k hk => .inl hk⟩
  refine ⟨x.k, r1.cell rfl, vIf_mk (fun h3 => ?_) (fun h3 => vIf_mk (fun h4 => vIf_mk (fun h5 => ?_) (fun h5 => ?_)) (fun h4 => ?_))⟩
  · have h3 : x.k = 3 := by simpa using h3
    refine ⟨cs2, h2.len, rec_all r8, x.cs, hxl, rec_all r1, (tag_calls _ x cs2 u h2u.at hx (by omega)).mono ?_⟩
    rintro r v ⟨fv, cs3, rfl, h6⟩
    exact ⟨_, rfl, put _ cs3 v fv h6 (by unfold applyL; rw [if_pos h3])⟩
  · have h3 : ¬ x.k = 3 := by simpa using h3
    have h4 : x.k = 4 := by simpa using h4
    refine ⟨cs2, h2.len, rec_all r8, x.cs, hxl, rec_all r1, (unt_calls _ x cs2 u h2u.at hx (by omega)).mono ?_⟩
    rintro r v ⟨fv, cs3, rfl, h6⟩
    exact ⟨_, rfl, put _ cs3 v fv h6 (by unfold applyL; rw [if_neg h3, if_pos ⟨h4, h5⟩])⟩
  · have h3 : ¬ x.k = 3 := by simpa using h3
    exact same (by unfold applyL; rw [if_neg h3, if_neg (fun h => by rw [h.2] at h5; cases h5)])
  · have h3 : ¬ x.k = 3 := by simpa using h3
    have h4 : ¬ x.k = 4 := by simpa using h4
    exact same (by unfold applyL; rw [if_neg h3, if_neg (fun h => h4 h.1)])
/-! ### the document -/
def SetSt (P : Nat → Prop) (w : World) (cs : List Value) (v : World) (B5 : Option Addr) (k5 : Nat) (o : List Tn) : Prop := Fr (fun _ => False) w v ∧ RecAt v w.heap.size 53 cs ∧ OT (fun k => P k ∧ k < w.heap.size) v (w.heap.size + 1) B5 o.length k5 o
theorem SetSt.drew {P : Nat → Prop} {w : World} {cs : List Value} {v : World} {B5 : Option Addr} {k5 : Nat} {o : List Tn} (h : SetSt P w cs v B5 k5 o) : SetSt P w cs v.drew B5 k5 o :=
  ⟨h.1.trans1 (Fr.drew _ _), h.2.1, h.2.2.fr0 (Fr.drew _ _)⟩
end Go.Proofs.YthcclmlbkfadcaaGreat.Tg
/- chapter 21: the document's New, Get, Apply, Keep, List, Names, Same, Texts -/
namespace Go.Proofs.YthcclmlbkfadcaaGreat.Tg
open Go.GV Go.RowKit Go.Lib
set_option linter.unusedVariables false
set_option linter.unusedSimpArgs false
/-- the document's table: off the blocks D -/
def RD (D : Nat → Prop) (w : World) (A : Option Addr) (n : Nat) (l : List Tn) : Prop := RT (fun k => ¬ D k) w A n l ∧ (n ≠ 0 → ∀ k, blkOf A = some k → ¬ D k)
theorem RD.fr0 {D : Nat → Prop} {w w' : World} {A : Option Addr} {n : Nat} {l : List Tn} (h : RD D w A n l) (f : Fr (fun _ => False) w w') : RD D w' A n l := ⟨h.1.fr0 f, h.2⟩
theorem RT.blt {P : Nat → Prop} {w : World} {A : Option Addr} {n : Nat} {l : List Tn} (h : RT P w A n l) (h0 : n ≠ 0) {k : Nat} (hk : blkOf A = some k) : k < w.heap.size := by
  obtain ⟨vs, h1, _⟩ := h
  exact h1.blt (by decide) h0 hk
theorem RD.step {D D' : Nat → Prop} {w w' : World} {A : Option Addr} {n : Nat} {l : List Tn} (h : RD D w A n l) (f : Fr D w w') (hD : ∀ k, D' k → D k ∨ w.heap.size ≤ k) : RD D' w' A n l := by
  have h1 := (h.1.mono (P' := fun k => ¬ D k ∧ k < w.heap.size) (fun k hk h => ⟨h, hk⟩)).fr f (fun k hk => hk.1) h.2
  refine ⟨h1.mono (fun k _ hk h' => ?_), fun h0 k hk h' => ?_⟩
  · rcases hD k h' with h'' | h''
    · exact hk.1 h''
    · have := hk.2; omega
  · have hb := h.1.blt h0 hk
    rcases hD k h' with h'' | h''
    · exact h.2 h0 k hk h''
    · omega
theorem RD.of {D : Nat → Prop} {w : World} {B : Nat} {A : Option Addr} {n c : Nat} {l : List Tn} (h : OT (fun k => ¬ D k) w B A n c l) (hD : ∀ k, D k → k < B) : RD D w A n l :=
  ⟨h.rt, fun _ k hk h' => by have := (h.blt hk).1; have := hD k h'; omega⟩
theorem getR_take {nm : ByteArray} {l : List Tn} {i : Nat} {x : Tn} (gi : l[i]? = some x) (h : ∀ y ∈ l.take i, y.nm ≠ nm) (hx : x.nm = nm) : getR nm l = (x, true) := by
  rw [at_split gi]
  exact getR_snoc h hx
set_option maxRecDepth 10000 in
theorem rget_calls {P : Nat → Prop} (A : Option Addr) (n c : Nat) (l : List Tn) (nm : ByteArray) (w : World) (h : RT P w A n l) (hn : n ≤ 17179869184) :
    Calls Tryz.prog 18 #[.slice A n c, .string nm] w fun r w' => Fr (fun _ => False) w w' ∧ ∃ cs, r = .returned (.tuple #[ofL cs, .bool (getR nm l).2]) ∧ TnP P w' cs (getR nm l).1 := by
  refine (F18.of A n c nm w (Q := fun v w' => Fr (fun _ => False) w w' ∧ ∃ cs, v = .tuple #[ofL cs, .bool (getR nm l).2] ∧ TnP P w' cs (getR nm l).1) ?_).mono (fun e w' ⟨v, he, hf, cs, hv, h⟩ => ⟨hf, cs, by rw [he, hv], h⟩)
  have hl := h.len
  refine nw_mk ?_
  have f1 : Fr (fun _ => False) w (w.alloc (.cells Z53.toArray 53)) := Fr.alloc _ _ _
  have r1 := RecAt.new w Z53 53
  generalize w.alloc (.cells Z53.toArray 53) = w1 at f1 r1 ⊢
  have h := (h.mono (P' := fun k => P k ∧ k < w.heap.size) (fun k hk h => ⟨h, hk⟩)).fr0 f1
  refine jnC_mk (loop_rule (fun s u => u = w1 ∧ ∃ i : Nat, i ≤ n ∧ s = ((A, n, c), nm, (w.heap.size, 0), (i : Int), ()) ∧ ∀ y ∈ l.take i, y.nm ≠ nm)
    (fun s _ => (n - s.2.2.2.1).toNat) ?_ _ _ ⟨rfl, 0, by omega, rfl, by simp⟩)
  rintro s u C ⟨rfl, i, hi, rfl, hno⟩ hC _
  refine vIf_mk (fun hlt => ?_) (fun hge => ?_)
  · have hlt2 : (i : Int) < (n : Int) := of_decide_eq_true hlt
    have gi : l[i]? = some (l[i]'(by omega)) := List.getElem?_eq_getElem (by omega)
    generalize l[i]'(by omega) = x at gi
    refine t_rd h gi (fun b o cs hA hT hc => ⟨x.nm, c_nm hT hc, ?_⟩)
    refine vIf_mk (fun he => ?_) (fun he => ?_)
    all_goals
      have he : (x.nm.toList == nm.toList) = _ := he
      rw [neq] at he
    · have hg := getR_take gi hno (of_decide_eq_true he)
      rw [hg]
      refine t_rd h gi (fun b o cs hA hT hc => ⟨cs, hT.len, hc, gd_mk (by rw [hT.len]; rfl) (st_all r1 z35 hT.len hT.one (fun w4 f4 r4 => ⟨fr_own f1 f4 (Nat.le_refl _), _, rfl, ?_⟩))⟩)
      exact (hT.fr f4 (fun k hk h' => by have h' : k = w.heap.size := h'; have := hk.2; omega)).mono (fun k _ hk => hk.1)
    · refine jnC_mk (hC _ _ ⟨rfl, i + 1, by omega, by rw [ei i (by omega)], fun y hy => ?_⟩ ?_)
      · rw [List.take_add_one, gi] at hy
        rcases List.mem_append.1 hy with hy | hy
        · exact hno y hy
        · simp at hy; subst hy; exact of_decide_eq_false he
      · show ((n : Int) - IntKind.wrap .i64 ((i : Int) + 1)).toNat < ((n : Int) - (i : Int)).toNat
        rw [ei i (by omega)]; omega
  · have hge2 : ¬ (i : Int) < (n : Int) := of_decide_eq_false hge
    rw [List.take_of_length_le (by omega)] at hno
    rw [getR_none hno]
    exact gd_mk rfl (st_all r1 z35 rfl (zT.one none 0 0) (fun w4 f4 r4 => ⟨fr_own f1 f4 (Nat.le_refl _), _, rfl, zTp _⟩))
/-! ### the same -/
end Go.Proofs.YthcclmlbkfadcaaGreat.Tg
/- stable sorting, plainly: tagged elements, chunks, rotations. No program in sight. -/
namespace Go.Stb
set_option linter.unusedVariables false
variable {α β : Type}
/-! ### lists -/
theorem get_mid {P R : List α} {x : α} {i : Nat} (hi : i = P.length) : (P ++ x :: R)[i]? = some x := by subst hi; simp
theorem set_mid {P R : List α} {x y : α} {i : Nat} (hi : i = P.length) : (P ++ x :: R).set i y = P ++ y :: R := by subst hi; simp
/-! ### the order -/
structure OrdC (cmp : β → β → Int) : Prop where
  anti : ∀ a b, cmp a b = - cmp b a
  trans : ∀ a b c, cmp a b ≤ 0 → cmp b c ≤ 0 → cmp a c ≤ 0
section
variable {cmp : β → β → Int}
/-- ahead of: by the order, else by the tag -/
def lt (cmp : β → β → Int) (x y : β × Nat) : Prop := cmp x.1 y.1 < 0 ∨ (cmp x.1 y.1 = 0 ∧ x.2 < y.2)
def Sorted (cmp : β → β → Int) (l : List (β × Nat)) : Prop := l.Pairwise (lt cmp)
/-- what stood ahead -/
def bef (x y : β × Nat) : Prop := x.2 < y.2
theorem OrdC.lt_le (h : OrdC cmp) {a b c : β} (h1 : cmp a b < 0) (h2 : cmp b c ≤ 0) : cmp a c < 0 := by
  have h3 := h.trans a b c (by omega) h2
  by_cases h0 : cmp a c = 0
  · have h4 := h.anti c a
    have h5 := h.trans b c a h2 (by omega)
    have h6 := h.anti a b
    omega
  · omega
theorem OrdC.le_lt (h : OrdC cmp) {a b c : β} (h1 : cmp a b ≤ 0) (h2 : cmp b c < 0) : cmp a c < 0 := by
  have h3 := h.trans a b c h1 (by omega)
  by_cases h0 : cmp a c = 0
  · have h4 := h.anti c a
    have h5 := h.trans c a b (by omega) h1
    have h6 := h.anti b c
    omega
  · omega
theorem lt_trans (h : OrdC cmp) {x y z : β × Nat} (h1 : lt cmp x y) (h2 : lt cmp y z) : lt cmp x z := by
  rcases h1 with h1 | ⟨h1, h1'⟩ <;> rcases h2 with h2 | ⟨h2, h2'⟩
  · exact .inl (h.lt_le h1 (by omega))
  · exact .inl (h.lt_le h1 (by omega))
  · exact .inl (h.le_lt (by omega) h2)
  · have h3 := h.trans x.1 y.1 z.1 (by omega) (by omega)
    have h4 := h.trans z.1 y.1 x.1 (by have := h.anti z.1 y.1; omega) (by have := h.anti y.1 x.1; omega)
    have h5 := h.anti x.1 z.1
    exact .inr ⟨by omega, by omega⟩
theorem lt_asymm (h : OrdC cmp) {x y : β × Nat} (h1 : lt cmp x y) (h2 : lt cmp y x) : False := by
  have h3 := h.anti x.1 y.1
  rcases h1 with h1 | ⟨h1, h1'⟩ <;> rcases h2 with h2 | ⟨h2, h2'⟩ <;> omega
/-- what the comparison of a later with an earlier one tells -/
theorem bef_yes (h : OrdC cmp) {x y : β × Nat} (hb : bef x y) (hc : cmp y.1 x.1 < 0) : lt cmp y x := .inl hc
theorem bef_no (h : OrdC cmp) {x y : β × Nat} (hb : bef x y) (hc : ¬ cmp y.1 x.1 < 0) : lt cmp x y := by
  have h3 := h.anti x.1 y.1
  have hb : x.2 < y.2 := hb
  by_cases h0 : cmp x.1 y.1 = 0
  · exact .inr ⟨h0, hb⟩
  · exact .inl (by omega)
theorem sorted_get (h : OrdC cmp) {l : List (β × Nat)} (hs : Sorted cmp l) {i j : Nat} {x y : β × Nat} (hi : l[i]? = some x) (hj : l[j]? = some y) (hij : i < j) : lt cmp x y := by
  obtain ⟨h1, rfl⟩ := List.getElem?_eq_some_iff.1 hi
  obtain ⟨h2, rfl⟩ := List.getElem?_eq_some_iff.1 hj
  exact (List.pairwise_iff_getElem.1 hs) i j h1 h2 hij
theorem sorted_app {A B : List (β × Nat)} (hA : Sorted cmp A) (hB : Sorted cmp B) (hAB : ∀ x ∈ A, ∀ y ∈ B, lt cmp x y) : Sorted cmp (A ++ B) := List.pairwise_append.2 ⟨hA, hB, hAB⟩
theorem sorted_of_app {A B : List (β × Nat)} (h : Sorted cmp (A ++ B)) : Sorted cmp A ∧ Sorted cmp B ∧ ∀ x ∈ A, ∀ y ∈ B, lt cmp x y := List.pairwise_append.1 h
/-- sorted rows of the same members are one -/
theorem sorted_unique (h : OrdC cmp) : ∀ {a b : List (β × Nat)}, Sorted cmp a → Sorted cmp b → a.Perm b → a = b
  | [], b, _, _, hp => by rw [List.nil_perm.1 hp]
  | x :: a, [], _, _, hp => by have := hp.length_eq; simp at this
  | x :: a, y :: b, ha, hb, hp => by
    have hca := List.pairwise_cons.1 ha
    have hcb := List.pairwise_cons.1 hb
    have hxy : x = y := by
      rcases List.mem_cons.1 (hp.mem_iff.1 (List.mem_cons_self (a := x) (l := a))) with h1 | h1
      · exact h1
      · rcases List.mem_cons.1 (hp.mem_iff.2 (List.mem_cons_self (a := y) (l := b))) with h2 | h2
        · exact h2.symm
        · exact (lt_asymm h (hcb.1 x h1) (hca.1 y h2)).elim
    subst hxy
    rw [sorted_unique h hca.2 hcb.2 ((List.perm_cons x).1 hp)]
/-! ### the row in its order -/
/-- an element behind all that aren't above it -/
def ins (cmp : β → β → Int) (x : β) : List β → List β
  | [] => [x]
  | y :: r => if cmp x y < 0 then x :: y :: r else y :: ins cmp x r
def stab (cmp : β → β → Int) (l : List β) : List β := l.foldl (fun a x => ins cmp x a) []
theorem stab_snoc (l : List β) (x : β) : stab cmp (l ++ [x]) = ins cmp x (stab cmp l) := by unfold stab; rw [List.foldl_append]; rfl
def insT (cmp : β → β → Int) (x : β × Nat) : List (β × Nat) → List (β × Nat)
  | [] => [x]
  | y :: r => if cmp x.1 y.1 < 0 then x :: y :: r else y :: insT cmp x r
theorem insT_fst (x : β × Nat) : ∀ l : List (β × Nat), (insT cmp x l).map (·.1) = ins cmp x.1 (l.map (·.1))
  | [] => rfl
  | y :: r => by
    unfold insT ins
    rw [List.map_cons]
    show _ = (if cmp x.1 y.1 < 0 then _ else _)
    split
    · rfl
    · rw [List.map_cons, insT_fst x r]
theorem insT_perm (x : β × Nat) : ∀ l : List (β × Nat), (insT cmp x l).Perm (x :: l)
  | [] => List.Perm.refl _
  | y :: r => by
    unfold insT
    split
    · exact List.Perm.refl _
    · exact ((insT_perm x r).cons y).trans (List.Perm.swap x y r)
theorem insT_sorted (h : OrdC cmp) (x : β × Nat) : ∀ l : List (β × Nat), Sorted cmp l → (∀ y ∈ l, bef y x) → Sorted cmp (insT cmp x l)
  | [], _, _ => List.pairwise_singleton _ _
  | y :: r, hs, hb => by
    have hc := List.pairwise_cons.1 hs
    unfold insT
    by_cases h1 : cmp x.1 y.1 < 0
    · rw [if_pos h1]
      refine List.pairwise_cons.2 ⟨fun z hz => ?_, hs⟩
      rcases List.mem_cons.1 hz with rfl | hz
      · exact .inl h1
      · exact lt_trans h (.inl h1) (hc.1 z hz)
    · rw [if_neg h1]
      refine List.pairwise_cons.2 ⟨fun z hz => ?_, insT_sorted h x r hc.2 (fun z hz => hb z (List.mem_cons_of_mem _ hz))⟩
      rcases List.mem_cons.1 ((insT_perm x r).mem_iff.1 hz) with rfl | hz
      · exact bef_no h (hb y (List.mem_cons_self ..)) h1
      · exact hc.1 z hz
/-- the row with its tags -/
def tagL (l : List β) : List (β × Nat) := l.zipIdx
theorem tagL_fst (l : List β) : (tagL l).map (·.1) = l := by simp [tagL]
theorem tagL_snoc (l : List β) (x : β) : tagL (l ++ [x]) = tagL l ++ [(x, l.length)] := by simp [tagL, List.zipIdx_append]
theorem tagL_lt {l : List β} {x : β × Nat} (h : x ∈ tagL l) : x.2 < l.length := by
  have := List.snd_lt_of_mem_zipIdx h
  simpa using this
theorem snoc_ind {P : List β → Prop} (h0 : P []) (h1 : ∀ l x, P l → P (l ++ [x])) (l : List β) : P l := by
  have : ∀ n (l : List β), l.length = n → P l := by
    intro n
    induction n with
    | zero => intro l hl; rw [List.length_eq_zero_iff.1 hl]; exact h0
    | succ n ih =>
      intro l hl
      have hne : l ≠ [] := by intro h; rw [h] at hl; cases hl
      rw [← List.dropLast_concat_getLast hne]
      exact h1 _ _ (ih _ (by simp [hl]))
  exact this _ l rfl
theorem stab_spec (h : OrdC cmp) (l : List β) : ∃ m, Sorted cmp m ∧ m.Perm (tagL l) ∧ m.map (·.1) = stab cmp l := by
  refine snoc_ind (P := fun l => ∃ m, Sorted cmp m ∧ m.Perm (tagL l) ∧ m.map (·.1) = stab cmp l) ⟨[], List.Pairwise.nil, List.Perm.refl _, rfl⟩ (fun l x ⟨m, h1, h2, h3⟩ => ?_) l
  refine ⟨insT cmp (x, l.length) m, insT_sorted h _ m h1 (fun y hy => tagL_lt (h2.mem_iff.1 hy)), ?_, ?_⟩
  · rw [tagL_snoc]
    exact (insT_perm _ m).trans ((h2.cons _).trans (List.perm_append_singleton _ _).symm)
  · rw [insT_fst, h3, stab_snoc]
/-- a sorted row of what a row has, tagged, is that row in order -/
theorem stab_of (h : OrdC cmp) {l : List β} {m : List (β × Nat)} (hs : Sorted cmp m) (hp : m.Perm (tagL l)) : m.map (·.1) = stab cmp l := by
  obtain ⟨m', h1, h2, h3⟩ := stab_spec h l
  rw [sorted_unique h hs h1 (hp.trans h2.symm), h3]
theorem ins_perm (x : β) : ∀ l : List β, (ins cmp x l).Perm (x :: l)
  | [] => List.Perm.refl _
  | y :: r => by
    unfold ins
    split
    · exact List.Perm.refl _
    · exact ((ins_perm x r).cons y).trans (List.Perm.swap x y r)
theorem stab_perm (l : List β) : (stab cmp l).Perm l :=
  snoc_ind (P := fun l => (stab cmp l).Perm l) (List.Perm.refl _) (fun l x ih => by rw [stab_snoc]; exact (ins_perm x _).trans ((ih.cons x).trans (List.perm_append_singleton _ _).symm)) l
theorem stab_len (l : List β) : (stab cmp l).length = l.length := (stab_perm l).length_eq
/-! ### chunks -/
/-- every one of a chunk stood ahead of every one of a later chunk -/
def befC (c d : List (β × Nat)) : Prop := ∀ x ∈ c, ∀ y ∈ d, bef x y
theorem befC_merge {Ds R : List (List (β × Nat))} {c d m : List (β × Nat)} (h : (Ds ++ c :: d :: R).Pairwise befC) (hm : m.Perm (c ++ d)) : (Ds ++ m :: R).Pairwise befC := by
  have h := List.pairwise_append.1 h
  have hc := List.pairwise_cons.1 h.2.1
  have hd := List.pairwise_cons.1 hc.2
  refine List.pairwise_append.2 ⟨h.1, List.pairwise_cons.2 ⟨fun r hr x hx y hy => ?_, hd.2⟩, fun e he r hr x hx y hy => ?_⟩
  · rcases List.mem_append.1 (hm.mem_iff.1 hx) with hx | hx
    · exact hc.1 r (List.mem_cons_of_mem _ hr) x hx y hy
    · exact hd.1 r hr x hx y hy
  · rcases List.mem_cons.1 hr with rfl | hr
    · rcases List.mem_append.1 (hm.mem_iff.1 hy) with hy | hy
      · exact h.2.2 e he c (List.mem_cons_self ..) x hx y hy
      · exact h.2.2 e he d (List.mem_cons_of_mem _ (List.mem_cons_self ..)) x hx y hy
    · exact h.2.2 e he r (List.mem_cons_of_mem _ (List.mem_cons_of_mem _ hr)) x hx y hy
theorem befC_two {Ds R : List (List (β × Nat))} {c d : List (β × Nat)} (h : (Ds ++ c :: d :: R).Pairwise befC) : befC c d := by
  have h := List.pairwise_append.1 h
  exact (List.pairwise_cons.1 h.2.1).1 d (List.mem_cons_self ..)
theorem flat_len {k : Nat} : ∀ {Fs : List (List (β × Nat))}, (∀ f ∈ Fs, f.length = k) → Fs.flatten.length = Fs.length * k
  | [], _ => by simp
  | f :: r, h => by
    rw [List.flatten_cons, List.length_append, h f (List.mem_cons_self ..), flat_len (fun g hg => h g (List.mem_cons_of_mem _ hg)), List.length_cons, Nat.add_mul]; omega
end
end Go.Stb
/- stable sorting, walked: rows of api.Word -/
namespace Go.Proofs.YthcclmlbkfadcaaGreat.StbWd
open Go.GV Go.RowKit Go.Stb
set_option linter.unusedVariables false
set_option linter.unusedSimpArgs false
/-- what is asked of the elements and their comparison -/
structure Srt (β : Type) (enc : β → List Value) (cmp : β → β → Int) : Prop where
  len : ∀ x, (enc x).length = 39
  one : ∀ x, ∀ v ∈ enc x, v.oneCell' = true
  ord : OrdC cmp
  call : ∀ x y w, Calls Tryz.prog 52 #[ofL (enc x), ofL (enc y)] w fun e w' => e = .returned (.int .i64 (cmp x y)) ∧ Fr (fun _ => False) w w'
def cf : Value := .func (.func 52) #[] #[]
section
variable {β : Type} {enc : β → List Value} {cmp : β → β → Int}
abbrev encT (enc : β → List Value) : β × Nat → List Value := fun x => enc x.1
theorem Srt.lenT (h : Srt β enc cmp) {l : List (β × Nat)} : ∀ x ∈ l, (encT enc x).length = 39 := fun x _ => h.len x.1
/-- the row holds these -/
def RS (enc : β → List Value) (w : World) (B : Nat) (A : Option Addr) (n c : Nat) (l : List (β × Nat)) : Prop := Row w B 37 39 A n c (flt (encT enc) l) ∧ l.length = n
theorem RS.fr0 {w w' : World} {B : Nat} {A : Option Addr} {n c : Nat} {l : List (β × Nat)} (h : RS enc w B A n c l) (f : Fr (fun _ => False) w w') : RS enc w' B A n c l := ⟨f.row h.1 (fun _ _ h => h), h.2⟩
theorem RS.drew {w : World} {B : Nat} {A : Option Addr} {n c : Nat} {l : List (β × Nat)} (h : RS enc w B A n c l) : RS enc w.drew B A n c l := h.fr0 (Fr.drew _ _)
theorem rs_rd (h0 : Srt β enc cmp) {w : World} {B : Nat} {A : Option Addr} {n c : Nat} {l : List (β × Nat)} (h : RS enc w B A n c l) {i : Nat} {x : β × Nat} (hi : l[i]? = some x) {ii : Int} (hii : ii = (i : Int)) {K : List Value → Prop} (hK : K (enc x.1)) :
    dr A fun b o => gd (decide (0 ≤ ii)) (gd (decide (ii < ((n : Nat) : Int))) (ldA 39 w b (o + ii.toNat * 39) K)) :=
  el_rd h.1.sl h0.lenT hi hii h.2 (fun b o hA hc => ⟨enc x.1, h0.len x.1, hc, hK⟩)
/-- two elements change their places -/
theorem rs_swap (h0 : Srt β enc cmp) {w : World} {B : Nat} {A : Option Addr} {n c : Nat} {l : List (β × Nat)} (h : RS enc w B A n c l) {i j : Nat} {x y : β × Nat} (hi : i < n) (hj : j < n) {ii jj : Int} (hii : ii = (i : Int)) (hjj : jj = (j : Int)) {K : World → Prop}
    (hK : ∀ w', RS enc w' B A n c ((l.set i y).set j x) → Fr (fun k => blkOf A = some k) w w' → K w') :
    dr A fun b o => gd (decide (0 ≤ ii)) (gd (decide (ii < ((n : Nat) : Int))) (gd ((enc y.1).length == 39) (st w b (o + ii.toNat * 39) (enc y.1) fun w1 =>
      dr A fun b o => gd (decide (0 ≤ jj)) (gd (decide (jj < ((n : Nat) : Int))) (gd ((enc x.1).length == 39) (st w1 b (o + jj.toNat * 39) (enc x.1) K)))))) :=
  el_put (enc := encT enc) h.1 h0.lenT h.2 hi hii (h0.len y.1) (h0.one y.1) (fun w1 hr1 f1 =>
    el_put (enc := encT enc) hr1 h0.lenT (by rw [List.length_set]; exact h.2) hj hjj (h0.len x.1) (h0.one x.1) (fun w2 hr2 f2 => hK w2 ⟨hr2, by rw [List.length_set, List.length_set]; exact h.2⟩ (f1.trans1 f2)))
theorem em (i j : Nat) (h1 : i < 1099511627776) (h2 : j < 1099511627776) : IntKind.wrap .i64 (Int.fdiv (IntKind.wrap .u64 (IntKind.wrap .i64 ((i : Int) + (j : Int)))) (2 ^ 1)) = (((i + j) / 2 : Nat) : Int) := by
  rw [i64_id (n := (i : Int) + (j : Int)) (by omega) (by omega), IntKind.wrap_u64, Int.fdiv_eq_ediv_of_nonneg _ (by decide), i64_id (by omega) (by omega)]; omega
theorem ep (i : Nat) (h : i < 1099511627776) : IntKind.wrap .i64 ((i : Int) + 1) = ((i + 1 : Nat) : Int) := by rw [i64_id (by omega) (by omega)]; rfl
theorem ea (i j : Nat) (h1 : i < 1099511627776) (h2 : j < 1099511627776) : IntKind.wrap .i64 ((i : Int) + (j : Int)) = ((i + j : Nat) : Int) := by rw [i64_id (by omega) (by omega)]; rfl
theorem es (i j : Nat) (h1 : i < 1099511627776) (h2 : j ≤ i) : IntKind.wrap .i64 ((i : Int) - (j : Int)) = ((i - j : Nat) : Int) := by rw [i64_id (by omega) (by omega)]; omega
theorem e1 (i : Nat) (h1 : i < 1099511627776) (h2 : 1 ≤ i) : IntKind.wrap .i64 ((i : Int) - 1) = ((i - 1 : Nat) : Int) := by rw [i64_id (by omega) (by omega)]; omega
/-! ### two ranges change their places -/
theorem swapRange_calls (h0 : Srt β enc cmp) (B : Nat) (A : Option Addr) (n c : Nat) (P X Y Z S : List (β × Nat)) (w : World) (h : RS enc w B A n c (P ++ X ++ Y ++ Z ++ S)) (hXZ : X.length = Z.length) (hn : n < 549755813888) {a b m : Int} (ha : a = ((P.length : Nat) : Int)) (hb : b = ((P.length + X.length + Y.length : Nat) : Int)) (hm : m = ((X.length : Nat) : Int)) :
    Calls Tryz.prog 156 #[.slice A n c, .int .i64 a, .int .i64 b, .int .i64 m, cf] w fun e w' => e = .returned (.tuple #[]) ∧ Fr (fun k => blkOf A = some k) w w' ∧ RS enc w' B A n c (P ++ Z ++ Y ++ X ++ S) := by
  subst ha; subst hb; subst hm
  refine (F156s.of A n c _ _ _ w (Q := fun v w' => v = .tuple #[] ∧ Fr (fun k => blkOf A = some k) w w' ∧ RS enc w' B A n c (P ++ Z ++ Y ++ X ++ S)) ?_).mono (fun e w' ⟨v, he, hv, h⟩ => ⟨by rw [he, hv], h⟩)
  have hlen := h.2
  simp only [List.length_append] at hlen
  refine jnC_mk (loop_rule (fun s u => Fr (fun k => blkOf A = some k) w u ∧ ∃ (k : Nat) (X1 X2 Z1 Z2 : List (β × Nat)), X = X1 ++ X2 ∧ Z = Z1 ++ Z2 ∧ X1.length = k ∧ Z1.length = k ∧ s = ((A, n, c), ((P.length : Nat) : Int), ((P.length + X.length + Y.length : Nat) : Int), ((X.length : Nat) : Int), (k : Int), ()) ∧ RS enc u B A n c (P ++ Z1 ++ X2 ++ Y ++ X1 ++ Z2 ++ S))
    (fun s _ => (X.length - s.2.2.2.2.1).toNat) ?_ _ _ ⟨Fr.refl _ _, 0, [], X, [], Z, rfl, rfl, rfl, rfl, rfl, by simpa using h⟩)
  rintro s u C ⟨hf, k, X1, X2, Z1, Z2, hX, hZ, hx1, hz1, rfl, hr⟩ hC _
  have hXl : X.length = X1.length + X2.length := by rw [hX, List.length_append]
  have hZl : Z.length = Z1.length + Z2.length := by rw [hZ, List.length_append]
  refine vIf_mk (fun hlt => ?_) (fun hge => ?_)
  · have hlt2 : (k : Int) < (X.length : Int) := of_decide_eq_true hlt
    obtain ⟨x, X2', rfl⟩ : ∃ x X2', X2 = x :: X2' := by
      cases X2 with
      | nil => simp at hXl; omega
      | cons x r => exact ⟨x, r, rfl⟩
    obtain ⟨z, Z2', rfl⟩ : ∃ z Z2', Z2 = z :: Z2' := by
      cases Z2 with
      | nil => simp at hZl; omega
      | cons x r => exact ⟨x, r, rfl⟩
    simp only [List.length_cons] at hXl hZl
    have ea1 : IntKind.wrap .i64 (((P.length : Nat) : Int) + (k : Int)) = ((P.length + k : Nat) : Int) := ea _ _ (by omega) (by omega)
    have eb1 : IntKind.wrap .i64 (((P.length + X.length + Y.length : Nat) : Int) + (k : Int)) = ((P.length + X.length + Y.length + k : Nat) : Int) := ea _ _ (by omega) (by omega)
    have hr := hr.drew
    have fd : Fr (fun k => blkOf A = some k) w u.drew := hf.trans1 (Fr.drew _ _)
    have hl1 : P ++ Z1 ++ (x :: X2') ++ Y ++ X1 ++ (z :: Z2') ++ S = (P ++ Z1) ++ x :: (X2' ++ Y ++ X1 ++ (z :: Z2') ++ S) := by simp
    have hl2 : P ++ Z1 ++ (x :: X2') ++ Y ++ X1 ++ (z :: Z2') ++ S = (P ++ Z1 ++ (x :: X2') ++ Y ++ X1) ++ z :: (Z2' ++ S) := by simp
    dsimp only
    refine rs_rd h0 hr (i := P.length + X.length + Y.length + k) (x := z) (by rw [hl2]; exact get_mid (by simp; omega)) eb1 ?_
    refine rs_rd h0 hr (i := P.length + k) (x := x) (by rw [hl1]; exact get_mid (by simp; omega)) ea1 ?_
    refine rs_swap h0 hr (i := P.length + k) (j := P.length + X.length + Y.length + k) (x := x) (y := z) (by omega) (by omega) ea1 eb1 (fun w' hr' f' => jnC_mk (hC _ _ ⟨fd.trans1 f', k + 1, X1 ++ [x], X2', Z1 ++ [z], Z2', by rw [hX]; simp, by rw [hZ]; simp, by simp [hx1], by simp [hz1], by rw [ep k (by omega)], ?_⟩ ?_))
    · rw [hl1, set_mid (by simp; omega)] at hr'
      have hl3 : (P ++ Z1) ++ z :: (X2' ++ Y ++ X1 ++ (z :: Z2') ++ S) = (P ++ Z1 ++ z :: (X2' ++ Y ++ X1)) ++ z :: (Z2' ++ S) := by simp
      rw [hl3, set_mid (by simp; omega)] at hr'
      have hl4 : (P ++ Z1 ++ z :: (X2' ++ Y ++ X1)) ++ x :: (Z2' ++ S) = P ++ (Z1 ++ [z]) ++ X2' ++ Y ++ (X1 ++ [x]) ++ Z2' ++ S := by simp
      rw [hl4] at hr'
      exact hr'
    · show ((X.length : Int) - IntKind.wrap .i64 ((k : Int) + 1)).toNat < ((X.length : Int) - (k : Int)).toNat
      rw [ep k (by omega)]; omega
  · have hge2 : ¬ (k : Int) < (X.length : Int) := of_decide_eq_false hge
    have hx2 : X2 = [] := List.length_eq_zero_iff.1 (by omega)
    have hz2 : Z2 = [] := List.length_eq_zero_iff.1 (by omega)
    subst hx2; subst hz2
    simp only [List.append_nil] at hX hZ hr
    subst hX; subst hZ
    exact ⟨rfl, hf, hr⟩
/-! ### rotation -/
theorem rotate_calls (h0 : Srt β enc cmp) (B : Nat) (A : Option Addr) (n c : Nat) (P X Y S : List (β × Nat)) (w : World) (h : RS enc w B A n c (P ++ X ++ Y ++ S)) (hX : X ≠ []) (hY : Y ≠ []) (hn : n < 549755813888) {a m b : Int} (ha : a = ((P.length : Nat) : Int)) (hm : m = ((P.length + X.length : Nat) : Int)) (hb : b = ((P.length + X.length + Y.length : Nat) : Int)) :
    Calls Tryz.prog 145 #[.slice A n c, .int .i64 a, .int .i64 m, .int .i64 b, cf] w fun e w' => e = .returned (.tuple #[]) ∧ Fr (fun k => blkOf A = some k) w w' ∧ RS enc w' B A n c (P ++ Y ++ X ++ S) := by
  subst ha; subst hm; subst hb
  refine (F145s.of A n c _ _ _ w (Q := fun v w' => v = .tuple #[] ∧ Fr (fun k => blkOf A = some k) w w' ∧ RS enc w' B A n c (P ++ Y ++ X ++ S)) ?_).mono (fun e w' ⟨v, he, hv, h⟩ => ⟨by rw [he, hv], h⟩)
  have hlen := h.2
  simp only [List.length_append] at hlen
  have hX0 : X.length ≠ 0 := fun h => hX (List.length_eq_zero_iff.1 h)
  have hY0 : Y.length ≠ 0 := fun h => hY (List.length_eq_zero_iff.1 h)
  have eX : IntKind.wrap .i64 (((P.length + X.length : Nat) : Int) - ((P.length : Nat) : Int)) = ((X.length : Nat) : Int) := by rw [es _ _ (by omega) (by omega), Nat.add_sub_cancel_left]
  have eY : IntKind.wrap .i64 (((P.length + X.length + Y.length : Nat) : Int) - ((P.length + X.length : Nat) : Int)) = ((Y.length : Nat) : Int) := by rw [es _ _ (by omega) (by omega), Nat.add_sub_cancel_left]
  refine jnC_mk (loop_rule (fun s u => Fr (fun k => blkOf A = some k) w u ∧ ∃ (P' X' Y' S' : List (β × Nat)), X' ≠ [] ∧ Y' ≠ [] ∧ P'.length + X'.length = P.length + X.length ∧ P' ++ Y' ++ X' ++ S' = P ++ Y ++ X ++ S ∧ s = ((A, n, c), ((P.length + X.length : Nat) : Int), (), ((X'.length : Nat) : Int), ((Y'.length : Nat) : Int), ()) ∧ RS enc u B A n c (P' ++ X' ++ Y' ++ S'))
    (fun s _ => (s.2.2.2.1 + s.2.2.2.2.1).toNat) ?_ _ _ ⟨Fr.refl _ _, P, X, Y, S, hX, hY, rfl, rfl, by rw [eX, eY], h⟩)
  rintro s u C ⟨hf, P', X', Y', S', hX', hY', hpx, htot, rfl, hr⟩ hC _
  have hX1 : X'.length ≠ 0 := fun h => hX' (List.length_eq_zero_iff.1 h)
  have hY1 : Y'.length ≠ 0 := fun h => hY' (List.length_eq_zero_iff.1 h)
  have hl := hr.2
  simp only [List.length_append] at hl
  have em1 : IntKind.wrap .i64 (((P.length + X.length : Nat) : Int) - ((X'.length : Nat) : Int)) = ((P'.length : Nat) : Int) := by rw [es _ _ (by omega) (by omega)]; congr 1; omega
  refine vIf_mk (fun hne => vIf_mk (fun hgt => ?_) (fun hle => ?_)) (fun heq => ?_)
  · have hgt2 : (X'.length : Int) > (Y'.length : Int) := of_decide_eq_true hgt
    -- X' = U V, U as long as Y'
    obtain ⟨U, V, hUV, hU⟩ : ∃ U V, X' = U ++ V ∧ U.length = Y'.length := ⟨X'.take Y'.length, X'.drop Y'.length, (List.take_append_drop _ _).symm, by rw [List.length_take]; omega⟩
    have hVl : X'.length = U.length + V.length := by rw [hUV, List.length_append]
    have hr2 : RS enc u B A n c (P' ++ U ++ V ++ Y' ++ S') := by
      rw [hUV] at hr
      simpa using hr
    refine (swapRange_calls h0 B A n c P' U V Y' S' u hr2 hU hn em1 (by rw [Nat.add_assoc P'.length, ← hVl]; exact congrArg _ hpx.symm) (by rw [hU])).mono ?_
    rintro r u2 ⟨rfl, f2, hr3⟩
    refine ⟨rfl, jnC_mk (hC _ _ ⟨hf.trans1 f2, P' ++ Y', V, U, S', ?_, ?_, ?_, ?_, ?_, ?_⟩ ?_)⟩
    · intro h; rw [h] at hVl; simp at hVl; omega
    · intro h; rw [h] at hU; simp at hU; omega
    · simp only [List.length_append]; omega
    · rw [← htot, hUV]; simp
    · show (_, _, _, IntKind.wrap .i64 ((X'.length : Int) - (Y'.length : Int)), _, ()) = _
      rw [es _ _ (by omega) (by omega), hU, show X'.length - Y'.length = V.length by omega]
    · exact hr3
    · show (IntKind.wrap .i64 ((X'.length : Int) - (Y'.length : Int)) + (Y'.length : Int)).toNat < ((X'.length : Int) + (Y'.length : Int)).toNat
      rw [es _ _ (by omega) (by omega)]; omega
  · have hle2 : ¬ (X'.length : Int) > (Y'.length : Int) := of_decide_eq_false hle
    have hne2 : X'.length ≠ Y'.length := by
      have hne : ((X'.length : Int) != (Y'.length : Int)) = true := hne
      intro h; rw [h] at hne; simp at hne
    -- Y' = U V, V as long as X'
    obtain ⟨U, V, hUV, hV⟩ : ∃ U V, Y' = U ++ V ∧ V.length = X'.length := ⟨Y'.take (Y'.length - X'.length), Y'.drop (Y'.length - X'.length), (List.take_append_drop _ _).symm, by rw [List.length_drop]; omega⟩
    have hUl : Y'.length = U.length + V.length := by rw [hUV, List.length_append]
    have hr2 : RS enc u B A n c (P' ++ X' ++ U ++ V ++ S') := by
      rw [hUV] at hr
      simpa using hr
    have eb2 : IntKind.wrap .i64 (IntKind.wrap .i64 (((P.length + X.length : Nat) : Int) + ((Y'.length : Nat) : Int)) - ((X'.length : Nat) : Int)) = ((P'.length + X'.length + U.length : Nat) : Int) := by
      rw [ea _ _ (by omega) (by omega), es _ _ (by omega) (by omega)]; congr 1; omega
    refine (swapRange_calls h0 B A n c P' X' U V S' u hr2 hV.symm hn em1 eb2 rfl).mono ?_
    rintro r u2 ⟨rfl, f2, hr3⟩
    refine ⟨rfl, jnC_mk (hC _ _ ⟨hf.trans1 f2, P', V, U, X' ++ S', ?_, ?_, ?_, ?_, ?_, ?_⟩ ?_)⟩
    · intro h; rw [h] at hV; simp at hV; omega
    · intro h; rw [h] at hUl; simp at hUl; omega
    · omega
    · rw [← htot, hUV]; simp
    · show (_, _, _, _, IntKind.wrap .i64 ((Y'.length : Int) - (X'.length : Int)), ()) = _
      rw [es _ _ (by omega) (by omega), hV, show Y'.length - X'.length = U.length by omega]
    · simpa using hr3
    · show ((X'.length : Int) + IntKind.wrap .i64 ((Y'.length : Int) - (X'.length : Int))).toNat < ((X'.length : Int) + (Y'.length : Int)).toNat
      rw [es _ _ (by omega) (by omega)]; omega
  · have heq2 : X'.length = Y'.length := by
      have heq : ((X'.length : Int) != (Y'.length : Int)) = false := heq
      have : (X'.length : Int) = (Y'.length : Int) := by simpa using heq
      omega
    refine (swapRange_calls h0 B A n c P' X' [] Y' S' u (by simpa using hr) heq2 hn em1 (by simp; omega) rfl).mono ?_
    rintro r u2 ⟨rfl, f2, hr3⟩
    rw [List.append_nil, htot] at hr3
    exact ⟨rfl, rfl, hf.trans1 f2, hr3⟩
end
end Go.Proofs.YthcclmlbkfadcaaGreat.StbWd
/- stable sorting, walked: merging, the sort: rows of api.Word -/
namespace Go.Proofs.YthcclmlbkfadcaaGreat.StbWd
open Go.GV Go.RowKit Go.Stb
set_option linter.unusedVariables false
set_option linter.unusedSimpArgs false
section
variable {β : Type} {enc : β → List Value} {cmp : β → β → Int}
/-- what a merge leaves -/
def Mrg (enc : β → List Value) (cmp : β → β → Int) (w w' : World) (B : Nat) (A : Option Addr) (n c : Nat) (P X Y S : List (β × Nat)) : Prop :=
  Fr (fun k => blkOf A = some k) w w' ∧ ∃ M, M.Perm (X ++ Y) ∧ Sorted cmp M ∧ RS enc w' B A n c (P ++ M ++ S)
theorem le_lt_le (h : OrdC cmp) {X Y : List (β × Nat)} (hX : Sorted cmp X) (hY : Sorted cmp Y) {k k' l l' : Nat} {u u' v v' : β × Nat} (hu : X[k]? = some u) (hu' : X[k']? = some u') (hk : k ≤ k') (hv : Y[l]? = some v) (hv' : Y[l']? = some v') (hl : l' ≤ l) (hlt : lt cmp u' v') : lt cmp u v := by
  have h1 : lt cmp u v' := by
    rcases Nat.lt_or_ge k k' with h' | h'
    · exact lt_trans h (sorted_get h hX hu hu' h') hlt
    · have : k = k' := by omega
      subst this
      rw [hu] at hu'; injection hu' with hu'; subst hu'; exact hlt
  rcases Nat.lt_or_ge l' l with h' | h'
  · exact lt_trans h h1 (sorted_get h hY hv' hv h')
  · have : l = l' := by omega
    subst this
    rw [hv] at hv'; injection hv' with hv'; subst hv'; exact h1
theorem mem_take_at {l : List (β × Nat)} {i : Nat} {x : β × Nat} (h : x ∈ l.take i) : ∃ j, j < i ∧ l[j]? = some x := by
  obtain ⟨j, hj⟩ := List.mem_iff_getElem?.1 h
  rw [List.getElem?_take] at hj
  split at hj
  · exact ⟨j, by assumption, hj⟩
  · cases hj
theorem mem_drop_at {l : List (β × Nat)} {i : Nat} {x : β × Nat} (h : x ∈ l.drop i) : ∃ j, i ≤ j ∧ l[j]? = some x := by
  obtain ⟨j, hj⟩ := List.mem_iff_getElem?.1 h
  rw [List.getElem?_drop] at hj
  exact ⟨i + j, by omega, hj⟩
/-- one element goes up into a row -/
theorem merge_one (h0 : Srt β enc cmp) (B : Nat) (A : Option Addr) (n c : Nat) (P Y S : List (β × Nat)) (x : β × Nat) (w : World) (h : RS enc w B A n c (P ++ x :: Y ++ S)) (hY : Sorted cmp Y) (hb : ∀ y ∈ Y, bef x y) (hn : n < 549755813888) :
    F122s.l3 (fun v w' => v = .tuple #[] ∧ Mrg enc cmp w w' B A n c P [x] Y S) ((A, n, c), ((P.length : Nat) : Int), (), ((P.length + 1 : Nat) : Int), ((P.length + 1 + Y.length : Nat) : Int), ()) w := by
  have hlen := h.2
  simp only [List.length_append, List.length_cons] at hlen
  have gx : (P ++ x :: Y ++ S)[P.length]? = some x := by rw [List.append_assoc]; exact get_mid rfl
  refine loop_rule (fun s u => Fr (fun k => blkOf A = some k) w u ∧ RS enc u B A n c (P ++ x :: Y ++ S) ∧ ∃ p q : Nat, p ≤ q ∧ q ≤ Y.length ∧ (∀ y ∈ Y.take p, lt cmp y x) ∧ (∀ y ∈ Y.drop q, lt cmp x y) ∧ s = ((A, n, c), ((P.length : Nat) : Int), (), ((P.length + 1 + p : Nat) : Int), ((P.length + 1 + q : Nat) : Int), ()))
    (fun s _ => (s.2.2.2.2.1 - s.2.2.2.1).toNat) ?_ _ _ ⟨Fr.refl _ _, h, 0, Y.length, by omega, by omega, by simp, by simp, rfl⟩
  rintro s u C ⟨hf, hr, p, q, hpq, hqY, hlo, hhi, rfl⟩ hC _
  refine vIf_mk (fun hlt => ?_) (fun hge => ?_)
  · have hlt2 : ((P.length + 1 + p : Nat) : Int) < ((P.length + 1 + q : Nat) : Int) := of_decide_eq_true hlt
    have emm := em (P.length + 1 + p) (P.length + 1 + q) (by omega) (by omega)
    have hh : (P.length + 1 + p + (P.length + 1 + q)) / 2 = P.length + 1 + (p + q) / 2 := by omega
    rw [hh] at emm
    have gi : Y[(p + q) / 2]? = some (Y[(p + q) / 2]'(by omega)) := List.getElem?_eq_getElem (by omega)
    generalize Y[(p + q) / 2]'(by omega) = y at gi
    have gy : (P ++ x :: Y ++ S)[P.length + 1 + (p + q) / 2]? = some y := by
      have : P ++ x :: Y ++ S = (P ++ [x]) ++ (Y ++ S) := by simp
      rw [this, List.getElem?_append_right (by simp), List.getElem?_append_left (by simp; omega)]
      rw [show P.length + 1 + (p + q) / 2 - (P ++ [x]).length = (p + q) / 2 by simp]; exact gi
    have hym : y ∈ Y := List.mem_of_getElem? gi
    dsimp only
    rw [emm]
    refine rs_rd h0 hr.drew gy rfl (rs_rd h0 hr.drew gx rfl ((h0.call y.1 x.1 u.drew).mono ?_))
    rintro r u2 ⟨rfl, f2⟩
    have hf2 : Fr (fun k => blkOf A = some k) w u2 := (hf.trans1 (Fr.drew _ _)).trans1 (f2.mono (fun _ _ h => h.elim))
    refine ⟨_, rfl, vIf_mk (fun h1 => jnC_mk (hC _ _ ⟨hf2, hr.drew.fr0 f2, (p + q) / 2 + 1, q, by omega, hqY, fun z hz => ?_, hhi, by rw [ep _ (by omega)]; rfl⟩ ?_)) (fun h1 => jnC_mk (hC _ _ ⟨hf2, hr.drew.fr0 f2, p, (p + q) / 2, by omega, by omega, hlo, fun z hz => ?_, rfl⟩ ?_))⟩
    · have h1 := bef_yes h0.ord (hb y hym) (of_decide_eq_true h1)
      obtain ⟨j, hj, hz⟩ := mem_take_at hz
      by_cases hjm : j = (p + q) / 2
      · subst hjm; rw [gi] at hz; injection hz with hz; subst hz; exact h1
      · exact lt_trans h0.ord (sorted_get h0.ord hY hz gi (by omega)) h1
    · show (((P.length + 1 + q : Nat) : Int) - IntKind.wrap .i64 (((P.length + 1 + (p + q) / 2 : Nat) : Int) + 1)).toNat < (((P.length + 1 + q : Nat) : Int) - ((P.length + 1 + p : Nat) : Int)).toNat
      rw [ep _ (by omega)]; omega
    · have h1 := bef_no h0.ord (hb y hym) (of_decide_eq_false h1)
      obtain ⟨j, hj, hz⟩ := mem_drop_at hz
      by_cases hjm : j = (p + q) / 2
      · subst hjm; rw [gi] at hz; injection hz with hz; subst hz; exact h1
      · exact lt_trans h0.ord h1 (sorted_get h0.ord hY gi hz (by omega))
    · show (((P.length + 1 + (p + q) / 2 : Nat) : Int) - ((P.length + 1 + p : Nat) : Int)).toNat < (((P.length + 1 + q : Nat) : Int) - ((P.length + 1 + p : Nat) : Int)).toNat
      omega
  · have hge2 : ¬ ((P.length + 1 + p : Nat) : Int) < ((P.length + 1 + q : Nat) : Int) := of_decide_eq_false hge
    have hpq2 : q = p := by omega
    subst hpq2
    clear hC
    have hYs := List.take_append_drop q Y
    have hs2 := hY
    rw [← hYs] at hs2
    obtain ⟨hs21, hs22, hs23⟩ := sorted_of_app hs2
    have htl : (Y.take q).length = q := by rw [List.length_take]; omega
    refine jnC_mk (loop_rule (fun s v => Fr (fun k => blkOf A = some k) w v ∧ ∃ U V : List (β × Nat), U ++ V = Y.take q ∧ s = ((A, n, c), ((P.length + 1 + q : Nat) : Int), ((P.length + U.length : Nat) : Int), ()) ∧ RS enc v B A n c (P ++ U ++ x :: V ++ Y.drop q ++ S))
      (fun s _ => (P.length + 1 + q - s.2.2.1).toNat) ?_ _ _ ⟨hf, [], Y.take q, rfl, rfl, by
        have : P ++ [] ++ x :: Y.take q ++ Y.drop q ++ S = P ++ x :: Y ++ S := by
          conv => rhs; rw [← hYs]
          simp
        rw [this]; exact hr⟩)
    rintro s v C ⟨hfv, U, V, hUV, rfl, hrv⟩ hC _
    have hUVl : U.length + V.length = q := by rw [← htl, ← hUV, List.length_append]
    have e0 : IntKind.wrap .i64 (((P.length + 1 + q : Nat) : Int) - 1) = ((P.length + q : Nat) : Int) := by rw [e1 _ (by omega) (by omega)]; congr 1; omega
    refine vIf_mk (fun hlt => ?_) (fun hge => ?_)
    · have hlt2 : ((P.length + U.length : Nat) : Int) < IntKind.wrap .i64 (((P.length + 1 + q : Nat) : Int) - 1) := of_decide_eq_true hlt
      rw [e0] at hlt2
      obtain ⟨y, V', rfl⟩ : ∃ y V', V = y :: V' := by
        cases V with
        | nil => simp at hUVl; omega
        | cons y r => exact ⟨y, r, rfl⟩
      have l1 : P ++ U ++ x :: (y :: V') ++ Y.drop q ++ S = (P ++ U) ++ x :: (y :: V' ++ Y.drop q ++ S) := by simp
      have l2 : P ++ U ++ x :: (y :: V') ++ Y.drop q ++ S = (P ++ U ++ [x]) ++ y :: (V' ++ Y.drop q ++ S) := by simp
      have ek : IntKind.wrap .i64 (((P.length + U.length : Nat) : Int) + 1) = ((P.length + U.length + 1 : Nat) : Int) := ep _ (by omega)
      refine rs_rd h0 hrv.drew (i := P.length + U.length + 1) (x := y) (by rw [l2]; exact get_mid (by simp; omega)) ek (rs_rd h0 hrv.drew (i := P.length + U.length) (x := x) (by rw [l1]; exact get_mid (by simp)) rfl ?_)
      refine rs_swap h0 hrv.drew (i := P.length + U.length) (j := P.length + U.length + 1) (by omega) (by omega) rfl ek (fun w' hr' f' => jnC_mk (hC _ _ ⟨(hfv.trans1 (Fr.drew _ _)).trans1 f', U ++ [y], V', by rw [← hUV]; simp, ?_, ?_⟩ ?_))
      · show (_, _, IntKind.wrap .i64 (((P.length + U.length : Nat) : Int) + 1), ()) = _
        rw [ek]; simp; omega
      · rw [l1, set_mid (by simp)] at hr'
        have l3 : (P ++ U) ++ y :: (y :: V' ++ Y.drop q ++ S) = (P ++ U ++ [y]) ++ y :: (V' ++ Y.drop q ++ S) := by simp
        rw [l3, set_mid (by simp; omega)] at hr'
        have l4 : (P ++ U ++ [y]) ++ x :: (V' ++ Y.drop q ++ S) = P ++ (U ++ [y]) ++ x :: V' ++ Y.drop q ++ S := by simp
        rw [l4] at hr'; exact hr'
      · show (((P.length : Nat) : Int) + 1 + ((q : Nat) : Int) - IntKind.wrap .i64 (((P.length + U.length : Nat) : Int) + 1)).toNat < (((P.length : Nat) : Int) + 1 + ((q : Nat) : Int) - ((P.length + U.length : Nat) : Int)).toNat
        rw [ek]; omega
    · have hge2 : ¬ ((P.length + U.length : Nat) : Int) < IntKind.wrap .i64 (((P.length + 1 + q : Nat) : Int) - 1) := of_decide_eq_false hge
      rw [e0] at hge2
      have hV : V = [] := List.length_eq_zero_iff.1 (by omega)
      subst hV
      rw [List.append_nil] at hUV
      subst hUV
      refine ⟨rfl, hfv, Y.take q ++ ([x] ++ Y.drop q), ?_, sorted_app hs21 (sorted_app (List.pairwise_singleton _ _) hs22 (fun u hu v hv => by simp at hu; subst hu; exact hhi v hv)) (fun u hu v hv => ?_), by simpa using hrv⟩
      · conv => rhs; rw [← hYs]
        exact List.perm_append_comm_assoc _ _ _
      · rcases List.mem_append.1 hv with hv | hv
        · simp at hv; subst hv; exact hlo u hu
        · exact hs23 u hu v hv
/-- one element goes down into a row -/
theorem merge_last (h0 : Srt β enc cmp) (B : Nat) (A : Option Addr) (n c : Nat) (P X S : List (β × Nat)) (y : β × Nat) (w : World) (h : RS enc w B A n c (P ++ X ++ y :: S)) (hX : Sorted cmp X) (hb : ∀ x ∈ X, bef x y) (hn : n < 549755813888) :
    F122s.l15 (fun v w' => v = .tuple #[] ∧ Mrg enc cmp w w' B A n c P X [y] S) ((A, n, c), ((P.length + X.length : Nat) : Int), (), ((P.length : Nat) : Int), ((P.length + X.length : Nat) : Int), ()) w := by
  have hlen := h.2
  simp only [List.length_append, List.length_cons] at hlen
  have gy : (P ++ X ++ y :: S)[P.length + X.length]? = some y := get_mid (by simp)
  refine loop_rule (fun s u => Fr (fun k => blkOf A = some k) w u ∧ RS enc u B A n c (P ++ X ++ y :: S) ∧ ∃ p q : Nat, p ≤ q ∧ q ≤ X.length ∧ (∀ x ∈ X.take p, lt cmp x y) ∧ (∀ x ∈ X.drop q, lt cmp y x) ∧ s = ((A, n, c), ((P.length + X.length : Nat) : Int), (), ((P.length + p : Nat) : Int), ((P.length + q : Nat) : Int), ()))
    (fun s _ => (s.2.2.2.2.1 - s.2.2.2.1).toNat) ?_ _ _ ⟨Fr.refl _ _, h, 0, X.length, by omega, by omega, by simp, by simp, rfl⟩
  rintro s u C ⟨hf, hr, p, q, hpq, hqX, hlo, hhi, rfl⟩ hC _
  refine vIf_mk (fun hlt => ?_) (fun hge => ?_)
  · have hlt2 : ((P.length + p : Nat) : Int) < ((P.length + q : Nat) : Int) := of_decide_eq_true hlt
    have emm := em (P.length + p) (P.length + q) (by omega) (by omega)
    have hh : (P.length + p + (P.length + q)) / 2 = P.length + (p + q) / 2 := by omega
    rw [hh] at emm
    have gi : X[(p + q) / 2]? = some (X[(p + q) / 2]'(by omega)) := List.getElem?_eq_getElem (by omega)
    generalize X[(p + q) / 2]'(by omega) = x at gi
    have gx : (P ++ X ++ y :: S)[P.length + (p + q) / 2]? = some x := by
      rw [List.append_assoc, List.getElem?_append_right (by omega), List.getElem?_append_left (by omega), Nat.add_sub_cancel_left]; exact gi
    have hxm : x ∈ X := List.mem_of_getElem? gi
    dsimp only
    rw [emm]
    refine rs_rd h0 hr.drew gy rfl (rs_rd h0 hr.drew gx rfl ((h0.call y.1 x.1 u.drew).mono ?_))
    rintro r u2 ⟨rfl, f2⟩
    have hf2 : Fr (fun k => blkOf A = some k) w u2 := (hf.trans1 (Fr.drew _ _)).trans1 (f2.mono (fun _ _ h => h.elim))
    refine ⟨_, rfl, vIf_mk (fun h1 => jnC_mk (hC _ _ ⟨hf2, hr.drew.fr0 f2, (p + q) / 2 + 1, q, by omega, hqX, fun z hz => ?_, hhi, by rw [ep _ (by omega)]; rfl⟩ ?_)) (fun h1 => jnC_mk (hC _ _ ⟨hf2, hr.drew.fr0 f2, p, (p + q) / 2, by omega, by omega, hlo, fun z hz => ?_, rfl⟩ ?_))⟩
    · have h1 : ¬ cmp y.1 x.1 < 0 := by simpa using h1
      have h1 := bef_no h0.ord (hb x hxm) h1
      obtain ⟨j, hj, hz⟩ := mem_take_at hz
      by_cases hjm : j = (p + q) / 2
      · subst hjm; rw [gi] at hz; injection hz with hz; subst hz; exact h1
      · exact lt_trans h0.ord (sorted_get h0.ord hX hz gi (by omega)) h1
    · show (((P.length + q : Nat) : Int) - IntKind.wrap .i64 (((P.length + (p + q) / 2 : Nat) : Int) + 1)).toNat < (((P.length + q : Nat) : Int) - ((P.length + p : Nat) : Int)).toNat
      rw [ep _ (by omega)]; omega
    · have h1 : cmp y.1 x.1 < 0 := by simpa using h1
      have h1 := bef_yes h0.ord (hb x hxm) h1
      obtain ⟨j, hj, hz⟩ := mem_drop_at hz
      by_cases hjm : j = (p + q) / 2
      · subst hjm; rw [gi] at hz; injection hz with hz; subst hz; exact h1
      · exact lt_trans h0.ord h1 (sorted_get h0.ord hX gi hz (by omega))
    · show (((P.length + (p + q) / 2 : Nat) : Int) - ((P.length + p : Nat) : Int)).toNat < (((P.length + q : Nat) : Int) - ((P.length + p : Nat) : Int)).toNat
      omega
  · have hge2 : ¬ ((P.length + p : Nat) : Int) < ((P.length + q : Nat) : Int) := of_decide_eq_false hge
    have hpq2 : q = p := by omega
    subst hpq2
    clear hC
    have hXs := List.take_append_drop q X
    have hs2 := hX
    rw [← hXs] at hs2
    obtain ⟨hs21, hs22, hs23⟩ := sorted_of_app hs2
    have htl : (X.take q).length = q := by rw [List.length_take]; omega
    have hdl : (X.drop q).length = X.length - q := List.length_drop
    refine jnC_mk (loop_rule (fun s v => Fr (fun k => blkOf A = some k) w v ∧ ∃ U V : List (β × Nat), U ++ V = X.drop q ∧ s = ((A, n, c), ((P.length + q : Nat) : Int), ((P.length + q + U.length : Nat) : Int), ()) ∧ RS enc v B A n c (P ++ X.take q ++ U ++ y :: V ++ S))
      (fun s _ => s.2.2.1.toNat) ?_ _ _ ⟨hf, X.drop q, [], by simp, by rw [hdl]; simp; omega, by
        have : P ++ X.take q ++ X.drop q ++ [y] ++ S = P ++ X ++ y :: S := by
          conv => rhs; rw [← hXs]
          simp
        rw [this]; exact hr⟩)
    rintro s v C ⟨hfv, U, V, hUV, rfl, hrv⟩ hC _
    have hUVl : U.length + V.length = X.length - q := by rw [← hdl, ← hUV, List.length_append]
    refine vIf_mk (fun hlt => ?_) (fun hge => ?_)
    · have hlt2 : ((P.length + q + U.length : Nat) : Int) > ((P.length + q : Nat) : Int) := of_decide_eq_true hlt
      obtain ⟨U', z, rfl⟩ : ∃ U' z, U = U' ++ [z] := by
        have hne : U ≠ [] := by intro h; subst h; simp at hlt2
        exact ⟨U.dropLast, U.getLast hne, (List.dropLast_concat_getLast hne).symm⟩
      simp only [List.length_append, List.length_cons, List.length_nil] at hUVl hlt2
      have l1 : P ++ X.take q ++ (U' ++ [z]) ++ y :: V ++ S = (P ++ X.take q ++ U') ++ z :: (y :: V ++ S) := by simp
      have l2 : P ++ X.take q ++ (U' ++ [z]) ++ y :: V ++ S = (P ++ X.take q ++ (U' ++ [z])) ++ y :: (V ++ S) := by simp
      have ek : IntKind.wrap .i64 (((P.length + q + (U' ++ [z]).length : Nat) : Int) - 1) = ((P.length + q + U'.length : Nat) : Int) := by rw [e1 _ (by simp; omega) (by simp; omega)]; simp only [List.length_append, List.length_cons, List.length_nil]; omega
      refine rs_rd h0 hrv.drew (i := P.length + q + U'.length) (x := z) (by rw [l1]; exact get_mid (by simp; omega)) ek (rs_rd h0 hrv.drew (i := P.length + q + (U' ++ [z]).length) (x := y) (by rw [l2]; exact get_mid (by simp; omega)) rfl ?_)
      refine rs_swap h0 hrv.drew (i := P.length + q + (U' ++ [z]).length) (j := P.length + q + U'.length) (x := y) (y := z) (by simp; omega) (by omega) rfl ek (fun w' hr' f' => jnC_mk (hC _ _ ⟨(hfv.trans1 (Fr.drew _ _)).trans1 f', U', z :: V, by rw [← hUV]; simp, ?_, ?_⟩ ?_))
      · show (_, _, IntKind.wrap .i64 (((P.length + q + (U' ++ [z]).length : Nat) : Int) - 1), ()) = _
        rw [ek]
      · rw [l2, set_mid (by simp; omega)] at hr'
        have l3 : (P ++ X.take q ++ (U' ++ [z])) ++ z :: (V ++ S) = (P ++ X.take q ++ U') ++ z :: (z :: (V ++ S)) := by simp
        rw [l3, set_mid (by simp; omega)] at hr'
        have l4 : (P ++ X.take q ++ U') ++ y :: (z :: (V ++ S)) = P ++ X.take q ++ U' ++ y :: (z :: V) ++ S := by simp
        rw [l4] at hr'; exact hr'
      · show (IntKind.wrap .i64 (((P.length + q + (U' ++ [z]).length : Nat) : Int) - 1)).toNat < (((P.length + q + (U' ++ [z]).length : Nat) : Int)).toNat
        rw [ek]; simp only [List.length_append, List.length_cons, List.length_nil]; omega
    · have hge2 : ¬ ((P.length + q + U.length : Nat) : Int) > ((P.length + q : Nat) : Int) := of_decide_eq_false hge
      have hU : U = [] := List.length_eq_zero_iff.1 (by omega)
      subst hU
      rw [List.nil_append] at hUV
      subst hUV
      refine ⟨rfl, hfv, X.take q ++ ([y] ++ X.drop q), ?_, sorted_app hs21 (sorted_app (List.pairwise_singleton _ _) hs22 (fun u hu v hv => by simp at hu; subst hu; exact hhi v hv)) (fun u hu v hv => ?_), by simpa using hrv⟩
      · conv => rhs; rw [← hXs, List.append_assoc]
        exact (List.perm_append_comm).append_left _
      · rcases List.mem_append.1 hv with hv | hv
        · simp at hv; subst hv; exact hlo u hu
        · exact hs23 u hu v hv
end
end Go.Proofs.YthcclmlbkfadcaaGreat.StbWd
