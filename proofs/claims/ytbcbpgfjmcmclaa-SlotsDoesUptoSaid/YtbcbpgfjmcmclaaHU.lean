/- chapter 18: rows of digests, by the table and by the document -/
import Derived.Test.YtbcbpgfjmcmclaaHT
namespace Go.Proofs.Ytbcbpgfjmcmclaa
open Go.GV Go.RowKit Go.Slots Go.Lib
set_option linter.unusedVariables false
set_option linter.unusedSimpArgs false
def fsts (l : List Pr) : List Dig := l.map (·.1)
theorem fsts_snoc {l : List Pr} {i : Nat} {x : Pr} (h : l[i]? = some x) : fsts (l.take (i + 1)) = fsts (l.take i) ++ [x.1] := by
  rw [List.take_add_one, h, Option.toList_some]
  simp [fsts]
theorem fsts_W32 {l : List Pr} (h : WP l) : W32 (fsts l) := fun d hd => by
  obtain ⟨x, hx, rfl⟩ := List.mem_map.1 hd
  exact h x hx
theorem rrowT_calls (A : Option Addr) (n c : Nat) (l : List Pr) (sl : Int) (w : World) (h : Sl w 33 A n (prs l)) (hw : WP l) (hn : n ≤ 17179869184) :
    Calls Try.prog 19 #[ofL [.slice A n c, .int .i64 sl]] w fun e w' => Fr (fun _ => False) w w' ∧ ∃ A' c' r', e = .returned (.slice A' r'.length c') ∧ Row w' w.heap.size 28 32 A' r'.length c' (dcs r') ∧ W32 r' ∧ Asc r' ∧ r'.length ≤ n ∧ ∀ d, d ∈ r' ↔ d ∈ fsts l := by
  refine (F19.of [.slice A n c, .int .i64 sl] w (Q := fun v w' => Fr (fun _ => False) w w' ∧ ∃ A' c' r', v = .slice A' r'.length c' ∧ Row w' w.heap.size 28 32 A' r'.length c' (dcs r') ∧ W32 r' ∧ Asc r' ∧ r'.length ≤ n ∧ ∀ d, d ∈ r' ↔ d ∈ fsts l) ?_).mono (fun e w' ⟨v, he, hf, A', c', r', hv, h⟩ => ⟨hf, A', c', r', by rw [he, hv], h⟩)
  have hrl := pr_len h hw
  refine nw_mk (jnC_mk ?_)
  have f1 : Fr (fun _ => False) w (w.alloc (.cells [Value.slice A n c, Value.int .i64 sl].toArray 37)) := Fr.alloc _ _ _
  have r1 : RecAt (w.alloc (.cells [Value.slice A n c, Value.int .i64 sl].toArray 37)) w.heap.size 37 [Value.slice A n c, Value.int .i64 sl] := RecAt.new w _ _
  have s1 : (w.alloc (.cells [Value.slice A n c, Value.int .i64 sl].toArray 37)).heap.size = w.heap.size + 1 := alloc_size _ _
  generalize w.alloc (.cells [Value.slice A n c, Value.int .i64 sl].toArray 37) = w1 at f1 r1 s1 ⊢
  generalize hb1 : w.heap.size = b1 at *
  refine loop_rule (fun s u => Fr (fun _ => False) w u ∧ RecAt u b1 37 [Value.slice A n c, Value.int .i64 sl] ∧ b1 + 1 ≤ u.heap.size ∧ ∃ (i : Nat) (A5 : Option Addr) (c5 : Nat), i ≤ n ∧ s = ((b1, 0), (A5, (fsts (l.take i)).length, c5), (i : Int), ()) ∧ Row u (b1 + 1) 28 32 A5 (fsts (l.take i)).length c5 (dcs (fsts (l.take i))))
    (fun s _ => (n - s.2.2.1).toNat) ?_ _ _ ⟨f1, r1, by omega, 0, none, 0, by omega, rfl, Row.nil _ _ _ _⟩
  rintro s u C ⟨hf, hr1, hus, i, A5, c5, hi, rfl, hr5⟩ hC _
  refine ⟨A, n, c, hr1.cell rfl, vIf_mk (fun hlt => ?_) (fun hge => ?_)⟩
  · have hlt2 : (i : Int) < (n : Int) := of_decide_eq_true hlt
    have gi : l[i]? = some (l[i]'(by omega)) := List.getElem?_eq_getElem (by omega)
    have hsn := fsts_snoc gi
    have hle : (fsts (l.take i)).length ≤ i := by simp [fsts]; omega
    have li := hw.at gi
    obtain ⟨b, o, hA, hcell⟩ := sl_pr (hf.sl h (fun _ _ _ h => h)) hw (i := i) (by omega)
    subst hA
    generalize l[i]'(by omega) = x at gi li hsn
    have lx : (x.1.map bv).length = 32 := by simp [li]
    have ci : cellsAt u b (o + ((i : Int)).toNat * 33) (prC x) := by rw [Int.toNat_natCast]; exact hcell i x gi
    have d0 : decide (0 ≤ (i : Int)) = true := decide_eq_true (by omega)
    have hmeas : ((n : Int) - IntKind.wrap .i64 ((i : Int) + 1)).toNat < ((n : Int) - (i : Int)).toNat := by rw [ei64 i (by omega)]; omega
    refine ⟨_, _, _, hr1.cell rfl, dr_mk (gd_mk d0 (gd_mk (decide_eq_true hlt2) ⟨_, lx, pr_key ci, gd_mk (by rw [lx]; rfl) ?_⟩))⟩
    refine push_dig (n := (fsts (l.take i)).length) hr5 li (by omega) (by omega) (fun A' c' u3 hr' f3 => jnC_mk (hC _ _ ⟨?_, ?_, ?_, i + 1, A', c', by omega, ?_, ?_⟩ hmeas))
    · refine hf.trans f3 (fun _ _ h => h) (fun q hq h' => ?_)
      have := (hr5.blt h').1
      omega
    · exact hr1.fr f3 (fun h' => by have := (hr5.blt h').1; omega)
    · have := f3.size; omega
    · rw [hsn, List.length_append, ei64 i (by omega)]; rfl
    · rw [hsn, List.length_append]; exact hr'
  · have hge2 : ¬ (i : Int) < (n : Int) := of_decide_eq_false hge
    have hta : l.take i = l := List.take_of_length_le (by omega)
    rw [hta] at hr5
    rw [hta]
    have hfl : (fsts l).length = n := by simp [fsts, hrl]
    refine (rrow_calls A5 (fsts l).length c5 (fsts l) u hr5.sl (fsts_W32 hw) (by omega)).mono ?_
    rintro e u2 ⟨f2, A6, c6, r6, rfl, hr6, hw6, ha6, hl6, hm6⟩
    exact ⟨_, _, _, rfl, hf.trans1 f2, A6, c6, r6, rfl, row_low (by omega) hr6, hw6, ha6, by omega, hm6⟩
/-! ### the table's row -/
def kys (S : SRow) : List Dig := S.filterMap (fun o => o.map (·.1))
def ky1 : Option (Key × Value) → List Dig
  | none => []
  | some x => [x.1]
theorem kys_snoc {S : SRow} {j : Nat} {o : Option (Key × Value)} (h : S[j]? = some o) : kys (S.take (j + 1)) = kys (S.take j) ++ ky1 o := by
  rw [List.take_add_one, h, Option.toList_some]
  cases o <;> simp [kys, ky1]
theorem kys_mem {S : SRow} {d : Dig} : d ∈ kys S ↔ ∃ v, Has S d v := by
  unfold kys Has At
  rw [List.mem_filterMap]
  constructor
  · rintro ⟨o, ho, hd⟩
    obtain ⟨i, hi⟩ := List.mem_iff_getElem?.1 ho
    cases o with
    | none => cases hd
    | some x => obtain ⟨k, v⟩ := x; simp at hd; subst hd; exact ⟨v, i, hi⟩
  · rintro ⟨v, i, hi⟩
    exact ⟨some (d, v), List.mem_of_getElem? hi, rfl⟩
theorem kys_len (S : SRow) : (kys S).length ≤ S.length := List.length_filterMap_le _ _
theorem trow_calls (B bt bs N : Nat) (S : SRow) (w : World) (h : Tab w B bt bs N S) (hN : N ≤ 274877906944) :
    Calls Try.prog 18 #[.pointer (some ⟨bt, 0, none⟩)] w fun e w' => Fr (fun _ => False) w w' ∧ ∃ A' c' r', e = .returned (.slice A' r'.length c') ∧ Row w' w.heap.size 28 32 A' r'.length c' (dcs r') ∧ W32 r' ∧ Asc r' ∧ r'.length ≤ N ∧ ∀ d, d ∈ r' ↔ ∃ v, Has S d v := by
  refine (F18.of (some ⟨bt, 0, none⟩) w (Q := fun v w' => Fr (fun _ => False) w w' ∧ ∃ A' c' r', v = .slice A' r'.length c' ∧ Row w' w.heap.size 28 32 A' r'.length c' (dcs r') ∧ W32 r' ∧ Asc r' ∧ r'.length ≤ N ∧ ∀ d, d ∈ r' ↔ ∃ v, Has S d v) ?_).mono (fun e w' ⟨v, he, hf, A', c', r', hv, h⟩ => ⟨hf, A', c', r', by rw [he, hv], h⟩)
  obtain ⟨ty, ty', cs, ht⟩ := h.at_
  have hSl := ht.tab.slen
  have Zl : Z59.length = 34 := rfl
  have hkW : ∀ d ∈ kys S, d.length = 32 := fun d hd => by
    obtain ⟨v, p, hp⟩ := kys_mem.1 hd
    exact (ht.tab.key hp).1
  refine vIf_f rfl (dr_mk ⟨_, _, _, ht.hd.cell rfl, jnC_mk ?_⟩)
  refine loop_rule (fun s u => Fr (fun _ => False) w u ∧ ∃ (j : Nat) (A5 : Option Addr) (c5 : Nat), j ≤ N ∧ s = ((A5, (kys (S.take j)).length, c5), (some ⟨bs, 0, none⟩, N, N), (N : Int), (j : Int), ()) ∧ Row u w.heap.size 28 32 A5 (kys (S.take j)).length c5 (dcs (kys (S.take j))))
    (fun s _ => (N - s.2.2.2.1).toNat) ?_ _ _ ⟨Fr.refl _ _, 0, none, 0, by omega, rfl, Row.nil _ _ _ _⟩
  rintro s u C ⟨hf, j, A5, c5, hj, rfl, hr5⟩ hC _
  have hus := hf.size
  refine vIf_mk (fun hlt => ?_) (fun hge => ?_)
  · have hlt2 : (j : Int) < (N : Int) := of_decide_eq_true hlt
    have hmeas : ((N : Int) - IntKind.wrap .i64 ((j : Int) + 1)).toNat < ((N : Int) - (j : Int)).toNat := by rw [ei64 j (by omega)]; omega
    obtain ⟨o, ho⟩ : ∃ o, S[j]? = some o := ⟨_, List.getElem?_eq_getElem (by omega)⟩
    have hsn := kys_snoc ho
    have hle := kys_len (S.take j)
    rw [List.length_take] at hle
    have hcl := cut_len ht.tab (i := j) (by omega)
    have hsc := slotAt_cut (ht.tab.slot j o ho)
    have hsl := ht.sl.fr hf (fun h => h)
    refine dr_mk (gd_mk (decide_eq_true (Int.natCast_nonneg j)) (gd_mk (decide_eq_true hlt2) ⟨(cs.drop (j * 34)).take 34, hcl, ?_, nw_mk (gd_mk (by simpa using hcl) ?_)⟩))
    · rw [Int.toNat_natCast, Nat.zero_add]; exact cut_cells hsl _ _
    generalize hvs : (cs.drop (j * 34)).take 34 = vs at hcl hsc ⊢
    have g1 : Fr (fun _ => False) u (u.alloc (.cells Z59.toArray 59)) := Fr.alloc _ _ _
    have rz : RecAt (u.alloc (.cells Z59.toArray 59)) u.heap.size 59 Z59 := RecAt.new u _ _
    have hone : ∀ x ∈ vs, x.oneCell' = true := by
      intro x hx
      have hx2 : x ∈ cs := by
        rw [← hvs] at hx
        exact List.mem_of_mem_drop (List.mem_of_mem_take hx)
      exact ht.tab.one x hx2
    refine rz.st_mk (o := 0) (by rw [Zl, hcl]; omega) hone (fun rv g2 => ?_)
    rw [splice_all (by rw [hcl, Zl])] at rv
    have g12 : Fr (fun _ => False) u (stB (u.alloc (.cells Z59.toArray 59)) u.heap.size 0 vs) := g1.trans g2 (fun _ _ h => h) (fun k hk h => by omega)
    have hs3 : u.heap.size < (stB (u.alloc (.cells Z59.toArray 59)) u.heap.size 0 vs).heap.size := by rw [stB_size, alloc_size]; omega
    generalize stB (u.alloc (.cells Z59.toArray 59)) u.heap.size 0 vs = u2 at rv g12 hs3 ⊢
    have hf2 := hf.trans1 g12
    have hr6 := g12.row hr5 (fun _ _ h => h)
    cases o with
    | none =>
      have h0 : vs[0]? = some (.bool false) := by simpa [SlotAt] using hsc
      simp only [ky1, List.append_nil] at hsn
      refine ⟨false, rv.cell h0, vIf_f rfl (jnC_mk (hC _ _ ⟨hf2, j + 1, A5, c5, by omega, by rw [hsn, ei64 j (by omega)], by rw [hsn]; exact hr6⟩ hmeas))⟩
    | some x =>
      obtain ⟨k, v⟩ := x
      simp only [ky1] at hsn
      have hk : k.length = 32 := hsc.1
      have hve := slot_one hsc hcl rfl
      subst hve
      have hkc : ∀ q y, (k.map bv)[q]? = some y → (slotC k v)[0 + 1 + q]? = some y := fun q y hq => by
        have hql := (List.getElem?_eq_some_iff.1 hq).1
        unfold slotC
        rw [List.getElem?_append_right (by simp), List.getElem?_append_left (by simp at hql ⊢; omega)]
        simpa using hq
      have lkk : (k.map bv).length = 32 := by simp [hk]
      refine ⟨true, rv.cell rfl, vIf_t rfl ⟨k.map bv, lkk, rv.cells hkc, gd_mk (by rw [lkk]; rfl) ?_⟩⟩
      refine push_dig (n := (kys (S.take j)).length) hr6 hk (by omega) (by omega) (fun A' c' u3 hr' f3 => jnC_mk (hC _ _ ⟨?_, j + 1, A', c', by omega, ?_, ?_⟩ hmeas))
      · refine hf2.trans f3 (fun _ _ h => h) (fun q hq h' => ?_)
        have := (hr6.blt h').1
        omega
      · rw [hsn, List.length_append, ei64 j (by omega)]; rfl
      · rw [hsn, List.length_append]; exact hr'
  · have hge2 : ¬ (j : Int) < (N : Int) := of_decide_eq_false hge
    have hta : S.take j = S := List.take_of_length_le (by omega)
    rw [hta] at hr5
    rw [hta]
    have hkl := kys_len S
    refine (row_calls A5 (kys S).length c5 (kys S) u hr5.sl hkW (by omega)).mono ?_
    rintro e u2 ⟨f2, A6, c6, r6, rfl, hr6, hw6, ha6, hl6, hm6⟩
    exact ⟨_, _, _, rfl, hf.trans1 f2, A6, c6, r6, rfl, row_low (by omega) hr6, hw6, ha6, by omega, fun d => by rw [hm6, kys_mem]⟩
end Go.Proofs.Ytbcbpgfjmcmclaa
