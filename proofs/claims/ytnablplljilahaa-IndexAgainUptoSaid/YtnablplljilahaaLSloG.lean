/- a table of slots with entries: New, Row -/
import Derived.Test.YtnablplljilahaaLSloF
import Derived.Test.YtnablplljilahaaLDRowJ
import Derived.Test.YtnablplljilahaaLDPu
import Derived.Test.YtnablplljilahaaLIntA
namespace Go.Proofs.Ytnablplljilahaa.Slo
open Go.GV Go.RowKit Go.Lib Go.Slots Go.Proofs.Ytnablplljilahaa.Dg
set_option linter.unusedVariables false
set_option linter.unusedSimpArgs false
def row0 (n : Nat) : SRow := List.replicate n none
theorem row0_no (n : Nat) : ∀ p k v, ¬ At (row0 n) p k v := fun p k v h => by
  have h1 := List.mem_of_getElem? h
  have h2 := (List.mem_replicate.1 h1).2
  cases h2
theorem row0_inv {n : Nat} (h : 0 < n) : Inv (homeOf n) n (row0 n) :=
  ⟨by simp [row0], fun k => homeOf_lt h k, fun p k v h => absurd h (row0_no n p k v), fun p q k v v' h => absurd h (row0_no n p k v)⟩
theorem row0_tab (n : Nat) : TabC n (row0 n) (zeros n Z79) := by
  have Zl : Z79.length = 71 := rfl
  refine ⟨by rw [zeros_length, Zl], by simp [row0], fun i o hi => ?_, fun v hv => ?_⟩
  · have hil := (List.getElem?_eq_some_iff.1 hi).1
    rw [row0, List.length_replicate] at hil
    have : o = none := (List.mem_replicate.1 (List.mem_of_getElem? hi)).2
    subst this
    show (zeros n Z79)[i * 71]? = some (.bool false)
    rw [zeros_get Z79 n (i * 71) (by rw [Zl]; omega), Zl, Nat.mul_mod_left]
    rfl
  · simp only [zeros, List.mem_flatten, List.mem_replicate] at hv
    obtain ⟨l, ⟨_, rfl⟩, hv⟩ := hv
    revert v
    decide +kernel
theorem new_calls (w : World) : Calls Try.prog 20 #[] w fun e w' => ∃ bt bs, e = .returned (.pointer (some ⟨bt, 0, none⟩)) ∧ Fr (fun _ => False) w w' ∧ Tab w' w.heap.size bt bs 8 (row0 8) ∧ w.heap.size ≤ w'.heap.size := by
  refine (F20.of w (Q := fun v w' => ∃ bt bs, v = .pointer (some ⟨bt, 0, none⟩) ∧ Fr (fun _ => False) w w' ∧ Tab w' w.heap.size bt bs 8 (row0 8) ∧ w.heap.size ≤ w'.heap.size) ?_).mono (fun e w' ⟨v, he, bt, bs, hv, h⟩ => ⟨bt, bs, by rw [he, hv], h⟩)
  refine nw_mk (nw_mk ?_)
  have f1 : Fr (fun _ => False) w (w.alloc (.cells (zeros 8 Z79).toArray 79)) := Fr.alloc _ _ _
  have r1 : RecAt (w.alloc (.cells (zeros 8 Z79).toArray 79)) w.heap.size 79 (zeros 8 Z79) := RecAt.new w _ _
  have hs1 : (w.alloc (.cells (zeros 8 Z79).toArray 79)).heap.size = w.heap.size + 1 := alloc_size _ _
  generalize w.alloc (.cells (zeros 8 Z79).toArray 79) = w1 at f1 r1 hs1 ⊢
  have f2 : Fr (fun _ => False) w1 (w1.alloc (.cells ([Value.slice (some ⟨w.heap.size, 0, none⟩) 8 8] ++ ([Value.int .i64 0] ++ [])).toArray 75)) := Fr.alloc _ _ _
  have r2 : RecAt (w1.alloc (.cells ([Value.slice (some ⟨w.heap.size, 0, none⟩) 8 8] ++ ([Value.int .i64 0] ++ [])).toArray 75)) w1.heap.size 75 ([Value.slice (some ⟨w.heap.size, 0, none⟩) 8 8] ++ ([Value.int .i64 0] ++ [])) := RecAt.new w1 _ _
  refine ⟨w1.heap.size, w.heap.size, rfl, f1.trans1 f2, ⟨⟨75, 79, zeros 8 Z79, r2, r1.fr f2 (fun h => h), by omega, row0_tab 8⟩, row0_inv (by omega), by omega, by rw [row0, cntF_none]; omega, by omega, by omega, by omega⟩, by rw [alloc_size]; omega⟩
/-! ### the row of all digests -/
def kys (S : SRow) : List Dig := S.filterMap (fun o => o.map (·.1))
def ky1 : Option (Key × List Value) → List Dig
  | none => []
  | some x => [x.1]
theorem kys_snoc {S : SRow} {j : Nat} {o : Option (Key × List Value)} (h : S[j]? = some o) : kys (S.take (j + 1)) = kys (S.take j) ++ ky1 o := by
  rw [List.take_add_one, h, Option.toList_some]
  cases o <;> simp [kys, ky1]
theorem kys_mem {S : SRow} {d : Dig} : d ∈ kys S ↔ ∃ v, Has S d v := by
  unfold kys Has At
  rw [List.mem_filterMap]
  constructor
  · rintro ⟨o, ho, hd⟩
    obtain ⟨i, hi⟩ := List.mem_iff_getElem?.1 ho
    cases o with
    | none => cases hd
    | some x => obtain ⟨k, v⟩ := x; simp at hd; subst hd; exact ⟨v, i, hi⟩
  · rintro ⟨v, i, hi⟩
    exact ⟨some (d, v), List.mem_of_getElem? hi, rfl⟩
theorem kys_len (S : SRow) : (kys S).length ≤ S.length := List.length_filterMap_le _ _
theorem trow_calls (B bt bs N : Nat) (S : SRow) (w : World) (h : Tab w B bt bs N S) (hN : N ≤ 274877906944) :
    Calls Try.prog 33 #[.pointer (some ⟨bt, 0, none⟩)] w fun e w' => Fr (fun _ => False) w w' ∧ ∃ A' c' r', e = .returned (.slice A' r'.length c') ∧ Row w' w.heap.size 29 32 A' r'.length c' (dcs r') ∧ W32 r' ∧ Asc r' ∧ r'.length ≤ N ∧ ∀ d, d ∈ r' ↔ ∃ v, Has S d v := by
  refine (F33.of (some ⟨bt, 0, none⟩) w (Q := fun v w' => Fr (fun _ => False) w w' ∧ ∃ A' c' r', v = .slice A' r'.length c' ∧ Row w' w.heap.size 29 32 A' r'.length c' (dcs r') ∧ W32 r' ∧ Asc r' ∧ r'.length ≤ N ∧ ∀ d, d ∈ r' ↔ ∃ v, Has S d v) ?_).mono (fun e w' ⟨v, he, hf, A', c', r', hv, h⟩ => ⟨hf, A', c', r', by rw [he, hv], h⟩)
  obtain ⟨ty, ty', cs, ht⟩ := h.at_
  have hSl := ht.tab.slen
  have Zl : Z79.length = 71 := rfl
  have hkW : ∀ d ∈ kys S, d.length = 32 := fun d hd => by
    obtain ⟨v, p, hp⟩ := kys_mem.1 hd
    exact (ht.tab.key hp).1
  refine vIf_f rfl (dr_mk ⟨_, _, _, ht.hd.cell rfl, jnC_mk ?_⟩)
  refine loop_rule (fun s u => Fr (fun _ => False) w u ∧ ∃ (j : Nat) (A5 : Option Addr) (c5 : Nat), j ≤ N ∧ s = ((A5, (kys (S.take j)).length, c5), (some ⟨bs, 0, none⟩, N, N), (N : Int), (j : Int), ()) ∧ Row u w.heap.size 29 32 A5 (kys (S.take j)).length c5 (dcs (kys (S.take j))))
    (fun s _ => (N - s.2.2.2.1).toNat) ?_ _ _ ⟨Fr.refl _ _, 0, none, 0, by omega, rfl, Row.nil _ _ _ _⟩
  rintro s u C ⟨hf, j, A5, c5, hj, rfl, hr5⟩ hC _
  have hus := hf.size
  refine vIf_mk (fun hlt => ?_) (fun hge => ?_)
  · have hlt2 : (j : Int) < (N : Int) := of_decide_eq_true hlt
    have hmeas : ((N : Int) - IntKind.wrap .i64 ((j : Int) + 1)).toNat < ((N : Int) - (j : Int)).toNat := by rw [ei j (by omega)]; omega
    obtain ⟨o, ho⟩ : ∃ o, S[j]? = some o := ⟨_, List.getElem?_eq_getElem (by omega)⟩
    have hsn := kys_snoc ho
    have hle := kys_len (S.take j)
    rw [List.length_take] at hle
    have hcl := cut_len ht.tab (i := j) (by omega)
    have hsc := slotAt_cut (ht.tab.slot j o ho)
    have hsl := ht.sl.fr hf (fun h => h)
    refine dr_mk (gd_mk (decide_eq_true (Int.natCast_nonneg j)) (gd_mk (decide_eq_true hlt2) ⟨(cs.drop (j * 71)).take 71, hcl, ?_, nw_mk (gd_mk (by simpa using hcl) ?_)⟩))
    · rw [Int.toNat_natCast, Nat.zero_add]; exact cut_cells hsl _ _
    generalize hvs : (cs.drop (j * 71)).take 71 = vs at hcl hsc ⊢
    have g1 : Fr (fun _ => False) u (u.alloc (.cells Z79.toArray 79)) := Fr.alloc _ _ _
    have rz : RecAt (u.alloc (.cells Z79.toArray 79)) u.heap.size 79 Z79 := RecAt.new u _ _
    have hone : ∀ x ∈ vs, x.oneCell' = true := by
      intro x hx
      have hx2 : x ∈ cs := by
        rw [← hvs] at hx
        exact List.mem_of_mem_drop (List.mem_of_mem_take hx)
      exact ht.tab.one x hx2
    refine rz.st_mk (o := 0) (by rw [Zl, hcl]; omega) hone (fun rv g2 => ?_)
    rw [splice_all (by rw [hcl, Zl])] at rv
    have g12 : Fr (fun _ => False) u (stB (u.alloc (.cells Z79.toArray 79)) u.heap.size 0 vs) := g1.trans g2 (fun _ _ h => h) (fun k hk h => by omega)
    have hs3 : u.heap.size < (stB (u.alloc (.cells Z79.toArray 79)) u.heap.size 0 vs).heap.size := by rw [stB_size, alloc_size]; omega
    generalize stB (u.alloc (.cells Z79.toArray 79)) u.heap.size 0 vs = u2 at rv g12 hs3 ⊢
    have hf2 := hf.trans1 g12
    have hr6 := g12.row hr5 (fun _ _ h => h)
    cases o with
    | none =>
      have h0 : vs[0]? = some (.bool false) := by simpa [SlotAt] using hsc
      simp only [ky1, List.append_nil] at hsn
      refine ⟨false, rv.cell h0, vIf_f rfl (jnC_mk (hC _ _ ⟨hf2, j + 1, A5, c5, by omega, by rw [hsn, ei j (by omega)], by rw [hsn]; exact hr6⟩ hmeas))⟩
    | some x =>
      obtain ⟨k, v⟩ := x
      simp only [ky1] at hsn
      have hk : k.length = 32 := hsc.1.1
      have hve := slot_one hsc hcl rfl
      subst hve
      have hkc : ∀ q y, (k.map bv)[q]? = some y → (slotC k v)[0 + 1 + q]? = some y := fun q y hq => by
        have hql := (List.getElem?_eq_some_iff.1 hq).1
        unfold slotC
        rw [List.getElem?_append_right (by simp), List.getElem?_append_left (by simp at hql ⊢; omega)]
        simpa using hq
      have lkk : (k.map bv).length = 32 := by simp [hk]
      refine ⟨true, rv.cell rfl, vIf_t rfl ⟨k.map bv, lkk, rv.cells hkc, gd_mk (by rw [lkk]; rfl) ?_⟩⟩
      refine push_dig (n := (kys (S.take j)).length) hr6 hk (by omega) (by omega) (fun A' c' u3 hr' f3 => jnC_mk (hC _ _ ⟨?_, j + 1, A', c', by omega, ?_, ?_⟩ hmeas))
      · refine hf2.trans f3 (fun _ _ h => h) (fun q hq h' => ?_)
        have := (hr6.blt h').1
        omega
      · rw [hsn, List.length_append, ei j (by omega)]; rfl
      · rw [hsn, List.length_append]; exact hr'
  · have hge2 : ¬ (j : Int) < (N : Int) := of_decide_eq_false hge
    have hta : S.take j = S := List.take_of_length_le (by omega)
    rw [hta] at hr5
    rw [hta]
    have hkl := kys_len S
    refine (row_calls A5 (kys S).length c5 (kys S) u hr5.sl hkW (by omega)).mono ?_
    rintro e u2 ⟨f2, A6, c6, r6, rfl, hr6, hw6, ha6, hl6, hm6⟩
    exact ⟨_, _, _, rfl, hf.trans1 f2, A6, c6, r6, rfl, row_low (by omega) hr6, hw6, ha6, by omega, fun d => by rw [hm6, kys_mem]⟩
end Go.Proofs.Ytnablplljilahaa.Slo
