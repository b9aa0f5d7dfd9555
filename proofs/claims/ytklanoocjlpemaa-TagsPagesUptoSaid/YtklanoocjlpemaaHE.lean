/- chapter 21: New, Get, Row, Keep of the program -/
import Derived.Test.YtklanoocjlpemaaHD
namespace Go.Proofs.Ytklanoocjlpemaa
open Go.GV Go.RowKit Go.Lib
set_option linter.unusedVariables false
set_option linter.unusedSimpArgs false
def Bd (M : Nat) (l : List Tn) : Prop := ∀ e ∈ l, e.l.length ≤ M
theorem Bd.at {M : Nat} {l : List Tn} (h : Bd M l) {i : Nat} {e : Tn} (hi : l[i]? = some e) : e.l.length ≤ M := h e (List.mem_of_getElem? hi)
theorem Bd.set {M : Nat} {l : List Tn} (h : Bd M l) {e : Tn} (he : e.l.length ≤ M) : Bd M (setR e l) := fun x hx => by
  rcases setR_mem e l x hx with rfl | hx
  · exact he
  · exact h x hx
def newT (l : List Tn) : List Tn := l.foldl (fun t e => setR e t) []
theorem newT_step {l : List Tn} {i : Nat} {e : Tn} (h : l[i]? = some e) : newT (l.take (i + 1)) = setR e (newT (l.take i)) := by
  unfold newT
  rw [List.take_add_one, h, List.foldl_append]
  rfl
theorem newT_asc (l : List Tn) : ∀ i, AscT (newT (l.take i))
  | 0 => by rw [List.take_zero]; exact List.Pairwise.nil
  | i + 1 => by
    cases h : l[i]? with
    | none =>
      rw [List.take_add_one, h, Option.toList_none, List.append_nil]; exact newT_asc l i
    | some e => rw [newT_step h]; exact setR_asc e (newT_asc l i)
theorem newT_len (l : List Tn) : ∀ i, (newT (l.take i)).length ≤ i
  | 0 => by rw [List.take_zero]; exact Nat.le_refl _
  | i + 1 => by
    have := newT_len l i
    cases h : l[i]? with
    | none =>
      rw [List.take_add_one, h, Option.toList_none, List.append_nil]; omega
    | some e => rw [newT_step h]; have := setR_len e (newT (l.take i)); omega
theorem newT_bd {M : Nat} {l : List Tn} (hb : Bd M l) : ∀ i, Bd M (newT (l.take i))
  | 0 => by rw [List.take_zero]; intro e he; cases he
  | i + 1 => by
    cases h : l[i]? with
    | none =>
      rw [List.take_add_one, h, Option.toList_none, List.append_nil]; exact newT_bd hb i
    | some e => rw [newT_step h]; exact (newT_bd hb i).set (hb.at h)
theorem newT_all (l : List Tn) : newT (l.take l.length) = newT l := by rw [List.take_length]
/-- over a table's own blocks -/
theorem tab_fr {X : Nat → Prop} {w u v : World} {tb : Nat} {R : Option Addr} {n c : Nat} {l : List Tn} (f : Fr (fun _ => False) w u) (h : Tab X u w.heap.size tb R n c l) (g : Fr (DT tb R) u v) : Fr (fun _ => False) w v :=
  f.trans g (fun _ _ h => h) (fun k hk h' => by have := (h.lt h').1; omega)
theorem Tab.out {X : Nat → Prop} {w w' : World} {base tb : Nat} {R : Option Addr} {n c : Nat} {l : List Tn} {D : Nat → Prop} (h : Tab X w base tb R n c l) (f : Fr D w w') (hD : ∀ k, k < w.heap.size → ¬ D k) : Tab X w' base tb R n c l := by
  obtain ⟨rc, ⟨vs, hv, ht⟩, hne, hba⟩ := h
  refine ⟨rc.fr f (hD _ rc.lt), ⟨vs, f.row hv (fun k hk => hD k (hv.blt hk).2), ?_⟩, hne, hba⟩
  refine ((ht.mono (P' := fun k => (blkOf R ≠ some k ∧ k ≠ tb ∧ X k) ∧ k < w.heap.size) (fun k hk h => ⟨h, hk⟩)).fr f (fun k hk => hD k hk.2)).mono (fun k _ h => h.1)
set_option maxRecDepth 10000 in
theorem newT_calls {X P : Nat → Prop} (A : Option Addr) (n c : Nat) (l : List Tn) (w : World) (h : RT P w A n l) (hn : n ≤ 1000000000) (hb : Bd 4294967296 l) (hX : ∀ k, w.heap.size ≤ k → X k) :
    Calls Try.prog 6 #[.slice A n c] w fun e w' => Fr (fun _ => False) w w' ∧ ∃ tb R n' c', e = .returned (.pointer (some ⟨tb, 0, none⟩)) ∧ Tab X w' w.heap.size tb R n' c' (newT l) := by
  refine (F6.of A n c w (Q := fun v w' => Fr (fun _ => False) w w' ∧ ∃ tb R n' c', v = .pointer (some ⟨tb, 0, none⟩) ∧ Tab X w' w.heap.size tb R n' c' (newT l)) ?_).mono (fun e w' ⟨v, he, hf, a, b, c, d, hv, h⟩ => ⟨hf, a, b, c, d, by rw [he, hv], h⟩)
  have hl := h.len
  refine nw_mk ?_
  rw [List.append_nil]
  have f1 : Fr (fun _ => False) w (w.alloc (.cells [Value.slice none 0 0].toArray 63)) := Fr.alloc _ _ _
  have r1 := RecAt.new w [Value.slice none 0 0] 63
  generalize w.alloc (.cells [Value.slice none 0 0].toArray 63) = w1 at f1 r1 ⊢
  refine jnC_mk (loop_rule (fun s u => Fr (fun _ => False) w u ∧ ∃ (i : Nat) (R : Option Addr) (n' c' : Nat), i ≤ n ∧ s = ((w.heap.size, 0), (A, n, c), (n : Int), (i : Int), ()) ∧ Tab X u w.heap.size w.heap.size R n' c' (newT (l.take i)))
    (fun s _ => (n - s.2.2.2.1).toNat) ?_ _ _ ⟨f1, 0, none, 0, 0, by omega, rfl, ⟨r1, OT.nil _ _ _, by simp [blkOf], Nat.le_refl _⟩⟩)
  rintro s u C ⟨hf, i, R, n', c', hi, rfl, hT⟩ hC _
  refine vIf_mk (fun hlt => ?_) (fun hge => ?_)
  · have hlt2 : (i : Int) < (n : Int) := of_decide_eq_true hlt
    have gi : l[i]? = some (l[i]'(by omega)) := List.getElem?_eq_getElem (by omega)
    generalize l[i]'(by omega) = x at gi
    refine t_rd (h.fr0 hf) gi (fun b o cs hA hTn hc => ⟨cs, hTn.len, hc, var_mk z35 hTn.len hTn.one (fun b6 u1 g1 r6 => ⟨cs, hTn.len, rec_all r6, (fresh_calls x cs u1 (hTn.fr0 g1) (hb.at gi)).mono ?_⟩)⟩)
    rintro r u2 ⟨g2, cs2, rfl, hT2⟩
    have g12 := g1.trans1 g2
    have hTu := hT.fr0 g12
    have hlen := newT_len l i
    have htl := hTu.len
    have hTs := hT.fr0 g1
    have hsx := (hf.trans1 g1).size
    refine ⟨_, rfl, (putT_calls w.heap.size w.heap.size R n' c' (newT (l.take i)) x cs2 u2 hTu (newT_asc l i) (hT2.mono (fun k _ hk => ⟨fun h' => by have := (hTs.lt h').2; omega, hX k (by omega)⟩)) (hf.trans1 g12).size (by omega)).mono ?_⟩
    rintro r u3 ⟨rfl, g3, R3, n3, c3, h3, _⟩
    rw [← newT_step gi] at h3
    refine ⟨rfl, jnC_mk (hC _ _ ⟨tab_fr (hf.trans1 g12) hTu g3, i + 1, R3, n3, c3, by omega, by rw [ei i (by omega)], h3⟩ ?_)⟩
    show ((n : Int) - IntKind.wrap .i64 ((i : Int) + 1)).toNat < ((n : Int) - (i : Int)).toNat
    rw [ei i (by omega)]; omega
  · have hge2 : ¬ (i : Int) < (n : Int) := of_decide_eq_false hge
    rw [List.take_of_length_le (by omega)] at hT
    exact ⟨hf, _, R, n', c', rfl, hT⟩
theorem zTp {P : Nat → Prop} (w : World) : TnP P w (zT.cs none 0 0) zT := ⟨none, 0, 0, rfl, Sl.nil _ _ _, rfl, fun h => absurd rfl h⟩
set_option maxRecDepth 10000 in
theorem getT_calls {X : Nat → Prop} (base tb : Nat) (R : Option Addr) (n c : Nat) (l : List Tn) (nm : ByteArray) (w : World) (h : Tab X w base tb R n c l) (ha : AscT l) (hn : n ≤ 1000000000) (hb : Bd 4294967296 l) :
    Calls Try.prog 9 #[.pointer (some ⟨tb, 0, none⟩), .string nm] w fun e w' => Fr (fun _ => False) w w' ∧ ∃ cs, e = .returned (.tuple #[ofL cs, .bool (getR nm l).2]) ∧ TnP (fun k => w.heap.size ≤ k) w' cs (getR nm l).1 := by
  refine (F9.of (some ⟨tb, 0, none⟩) nm w (Q := fun v w' => Fr (fun _ => False) w w' ∧ ∃ cs, v = .tuple #[ofL cs, .bool (getR nm l).2] ∧ TnP (fun k => w.heap.size ≤ k) w' cs (getR nm l).1) ?_).mono (fun e w' ⟨v, he, hf, cs, hv, h⟩ => ⟨hf, cs, by rw [he, hv], h⟩)
  refine nw_mk ?_
  have f1 : Fr (fun _ => False) w (w.alloc (.cells Z34.toArray 34)) := Fr.alloc _ _ _
  have r1 := RecAt.new w Z34 34
  generalize w.alloc (.cells Z34.toArray 34) = w1 at f1 r1 ⊢
  have hl := h.len
  refine vIf_f rfl ((place_calls base tb R n c l nm w1 (h.fr0 f1) ha (by omega)).mono ?_)
  rintro r w2 ⟨f2, i, rfl, hp⟩
  have f12 := f1.trans1 f2
  have hT := h.fr0 f12
  have r1 := r1.fr f2 (fun h => h)
  refine ⟨_, _, rfl, ?_⟩
  rcases pl_get ha hp with ⟨e, he, hat, hg⟩ | ⟨hat, hg⟩
  · rw [hat, hg]
    refine vIf_f rfl (dr_mk ⟨R, n, c, hT.cell, t_rd hT.ot.rt he (fun b o cs hA hTn hc => ⟨cs, hTn.len, hc, (fresh_calls e cs w2 hTn (hb.at he)).mono ?_⟩)⟩)
    rintro r w3 ⟨f3, cs3, rfl, h3⟩
    refine ⟨_, rfl, gd_mk (by rw [h3.len]; rfl) (st_all (r1.fr f3 (fun h => h)) z35 h3.len h3.one (fun w4 f4 r4 => ⟨fr_own (f12.trans1 f3) f4 (Nat.le_refl _), _, rfl, ?_⟩))⟩
    have hsz := f12.size
    refine (h3.fr f4 (fun k hk h' => ?_)).mono (fun k _ hk => by omega)
    have := r1.lt
    subst h'
    omega
  · rw [hat, hg]
    exact vIf_t rfl (gd_mk rfl (st_all r1 z35 rfl (zT.one none 0 0) (fun w4 f4 r4 => ⟨fr_own f12 f4 (Nat.le_refl _), _, rfl, zTp _⟩)))
set_option maxRecDepth 10000 in
theorem rowT_calls {X : Nat → Prop} (base tb : Nat) (R : Option Addr) (n c : Nat) (l : List Tn) (w : World) (h : Tab X w base tb R n c l) (hn : n ≤ 1000000000) (hb : Bd 4294967296 l) :
    Calls Try.prog 24 #[.pointer (some ⟨tb, 0, none⟩)] w fun e w' => Fr (fun _ => False) w w' ∧ ∃ A' c', e = .returned (.slice A' n c') ∧ OT (fun k => w.heap.size ≤ k) w' w.heap.size A' n c' l := by
  refine (F24.of (some ⟨tb, 0, none⟩) w (Q := fun v w' => Fr (fun _ => False) w w' ∧ ∃ A' c', v = .slice A' n c' ∧ OT (fun k => w.heap.size ≤ k) w' w.heap.size A' n c' l) ?_).mono (fun e w' ⟨v, he, hf, a, b, hv, h⟩ => ⟨hf, a, b, by rw [he, hv], h⟩)
  have hl := h.len
  refine vIf_f rfl (dr_mk ⟨R, n, c, h.cell, jnC_mk (loop_rule (fun s u => Fr (fun _ => False) w u ∧ ∃ (i : Nat) (A5 : Option Addr) (c5 : Nat), i ≤ n ∧ s = ((A5, i, c5), (R, n, c), (n : Int), (i : Int), ()) ∧ OT (fun k => w.heap.size ≤ k) u w.heap.size A5 i c5 (l.take i))
    (fun s _ => (n - s.2.2.2.1).toNat) ?_ _ _ ⟨Fr.refl _ _, 0, none, 0, by omega, rfl, OT.nil _ _ _⟩)⟩)
  rintro s u C ⟨hf, i, A5, c5, hi, rfl, hO⟩ hC _
  refine vIf_mk (fun hlt => ?_) (fun hge => ?_)
  · have hlt2 : (i : Int) < (n : Int) := of_decide_eq_true hlt
    have gi : l[i]? = some (l[i]'(by omega)) := List.getElem?_eq_getElem (by omega)
    generalize l[i]'(by omega) = x at gi
    refine t_rd (h.fr0 hf).ot.rt gi (fun b o cs hA hTn hc => ⟨cs, hTn.len, hc, var_mk z35 hTn.len hTn.one (fun b6 u1 g1 r6 => ⟨cs, hTn.len, rec_all r6, (fresh_calls x cs u1 (hTn.fr0 g1) (hb.at gi)).mono ?_⟩)⟩)
    rintro r u2 ⟨g2, cs2, rfl, hT2⟩
    have g12 := g1.trans1 g2
    have hO1 := hO.fr0 g1
    have hs := (hf.trans1 g1).size
    refine ⟨_, rfl, pushT (hO.fr0 g12) (hT2.mono (fun k _ hk => ⟨fun h' => by have := (hO1.blt h').2; omega, by omega⟩)) (hf.trans1 g12).size (by show i ≤ 1073741824; omega) (fun A' c' w' hO' f' hnew => ?_)⟩
    have hsn : l.take (i + 1) = l.take i ++ [x] := by rw [List.take_add_one, gi]; rfl
    refine jnC_mk (hC _ _ ⟨(hf.trans1 g12).trans f' (fun _ _ h => h) (fun k hk h' => by have := (hO.blt h').1; omega), i + 1, A', c', by omega, by rw [ei i (by omega)], by rw [hsn]; exact hO'⟩ ?_)
    show ((n : Int) - IntKind.wrap .i64 ((i : Int) + 1)).toNat < ((n : Int) - (i : Int)).toNat
    rw [ei i (by omega)]; omega
  · have hge2 : ¬ (i : Int) < (n : Int) := of_decide_eq_false hge
    rw [List.take_of_length_le (by omega)] at hO
    have : i = n := by omega
    subst this
    exact ⟨hf, A5, c5, rfl, hO⟩
set_option maxRecDepth 10000 in
theorem keepTab_calls {X : Nat → Prop} (base tb : Nat) (R : Option Addr) (n c : Nat) (l : List Tn) (S : Option Addr) (m k : Nat) (sg : List Int) (w : World) (h : Tab X w base tb R n c l) (hn : n ≤ 1000000000) (hb : Bd 4294967296 l) (hsg : Sl w 1 S m (ivs sg)) (hm : m ≤ 8589934592) (hbase : base ≤ w.heap.size) (hX : ∀ k, w.heap.size ≤ k → X k) :
    Calls Try.prog 15 #[.pointer (some ⟨tb, 0, none⟩), .slice S m k] w fun e w' => e = .returned (.tuple #[]) ∧ Fr (DT tb R) w w' ∧ ∃ R' n' c', Tab X w' base tb R' n' c' (keepL sg l) ∧ ∀ k, blkOf R' = some k → w.heap.size ≤ k := by
  refine (F15.of (some ⟨tb, 0, none⟩) S m k w (Q := fun v w' => v = .tuple #[] ∧ Fr (DT tb R) w w' ∧ ∃ R' n' c', Tab X w' base tb R' n' c' (keepL sg l) ∧ ∀ k, blkOf R' = some k → w.heap.size ≤ k) ?_).mono (fun e w' ⟨v, he, hv, h⟩ => ⟨by rw [he, hv], h⟩)
  have hl := h.len
  have htb := h.rc.lt
  refine vIf_f rfl (dr_mk ⟨R, n, c, h.cell, jnC_mk (loop_rule (fun s u => Fr (fun _ => False) w u ∧ ∃ (i : Nat) (A5 : Option Addr) (c5 : Nat), i ≤ n ∧ s = (some ⟨tb, 0, none⟩, (S, m, k), (A5, (keepL sg (l.take i)).length, c5), (R, n, c), (n : Int), (i : Int), ()) ∧ OT (fun k => w.heap.size ≤ k) u w.heap.size A5 (keepL sg (l.take i)).length c5 (keepL sg (l.take i)))
    (fun s _ => (n - s.2.2.2.2.2.1).toNat) ?_ _ _ ⟨Fr.refl _ _, 0, none, 0, by omega, rfl, OT.nil _ _ _⟩)⟩)
  rintro s u C ⟨hf, i, A5, c5, hi, rfl, hO⟩ hC _
  refine vIf_mk (fun hlt => ?_) (fun hge => ?_)
  · have hlt2 : (i : Int) < (n : Int) := of_decide_eq_true hlt
    have gi : l[i]? = some (l[i]'(by omega)) := List.getElem?_eq_getElem (by omega)
    generalize l[i]'(by omega) = x at gi
    have hstep := keepL_step (sg := sg) gi
    have hkl := keepL_len sg (l.take i)
    rw [List.length_take] at hkl
    have hmeas : ((n : Int) - IntKind.wrap .i64 ((i : Int) + 1)).toNat < ((n : Int) - (i : Int)).toNat := by rw [ei i (by omega)]; omega
    refine t_rd (h.fr0 hf).ot.rt gi (fun b o cs hA hTn hc => ⟨cs, hTn.len, hc, var_mk z35 hTn.len hTn.one (fun b6 u1 g1 r6 => ⟨cs, hTn.len, rec_all r6, (keepT_calls x cs S m k sg u1 (hTn.fr0 g1).at (sl_fr hsg (hf.trans1 g1)) (hb.at gi) hm).mono ?_⟩)⟩)
    rintro r u2 ⟨g2, cs2, rfl, hT2⟩
    refine ⟨_, _, rfl, var_mk z35 hT2.len hT2.one (fun b17 u3 g3 r17 => ?_)⟩
    have g13 := (g1.trans1 g2).trans1 g3
    have hO1 := hO.fr0 g1
    have hs := (hf.trans1 g1).size
    refine vIf_mk (fun hk => ⟨cs2, hT2.len, rec_all r17, pushT (hO.fr0 g13) ((hT2.fr0 g3).mono (fun k _ hk => ⟨fun h' => by have := (hO1.blt h').2; omega, by omega⟩)) (hf.trans1 g13).size (by show (keepL sg (l.take i)).length ≤ 1073741824; omega) (fun A' c' w' hO' f' hnew => ?_)⟩) (fun hk => ?_)
    · rw [if_pos hk] at hstep
      have hlen : (keepL sg (l.take i)).length + 1 = (keepL sg (l.take (i + 1))).length := by rw [hstep]; simp
      refine jnC_mk (hC _ _ ⟨(hf.trans1 g13).trans f' (fun _ _ h => h) (fun k hk h' => by have := (hO.blt h').1; omega), i + 1, A', c', by omega, by rw [ei i (by omega), hlen], by rw [← hlen, hstep]; exact hO'⟩ hmeas)
    · rw [if_neg (by rw [hk]; decide)] at hstep
      exact jnC_mk (hC _ _ ⟨hf.trans1 g13, i + 1, A5, c5, by omega, by rw [ei i (by omega), hstep], by rw [hstep]; exact hO.fr0 g13⟩ hmeas)
  · have hge2 : ¬ (i : Int) < (n : Int) := of_decide_eq_false hge
    rw [List.take_of_length_le (by omega)] at hO ⊢
    have rc := h.rc.fr hf (fun h => h)
    refine dr_mk (rc.st_mk (o := 0) (by simp) (fun v hv => by simp at hv; subst hv; rfl) (fun rc6 k6 => ⟨rfl, ?_, A5, _, c5, ⟨rc6, ?_, fun h' => by have := (hO.blt h').1; omega, h.ba⟩, fun k hk => (hO.blt hk).1⟩))
    · exact (hf.mono (fun _ _ h => h.elim)).trans1 (k6.mono (fun k _ hk => .inl hk))
    · exact (hO.fr k6 (fun k hk h' => by omega) (fun k hk h' => by have := (hO.blt hk).1; omega)).mono hbase (fun k _ hk => ⟨by omega, hX k hk⟩)
end Go.Proofs.Ytklanoocjlpemaa
