/- the document's rows of digests: Put, Row, Has, Same -/
import Derived.Test.YtbifohpdlknjiaaLDLess
import Derived.Test.YtbifohpdlknjiaaLDRowD
namespace Go.Proofs.Ytbifohpdlknjiaa
open Go.GV Go.RowKit Go.Lib
set_option linter.unusedVariables false
set_option linter.unusedSimpArgs false
theorem cellsB {l : List UInt8} {u : World} {g : Nat} {ty : TypeId} (r : RecAt u g ty (l.map bv)) : cellsAt u g 0 (l.map bv) := r.cells (o := 0) (fun q v hq => by simpa using hq)
theorem push_dig {w : World} {B : Nat} {A : Option Addr} {n c : Nat} {out : List Dig} {d : Dig} {K : Option Addr → Nat → Nat → World → Prop} (hr : Row w B 27 32 A n c (dcs out)) (hd : d.length = 32) (hB : B ≤ w.heap.size) (hn : n ≤ 2199023255552)
    (hK : ∀ A' c' w', Row w' B 27 32 A' (n + 1) c' (dcs (out ++ [d])) → Fr (fun k => blkOf A = some k) w w' → K A' (n + 1) c' w') : nw w (d.map bv ++ []) 27 fun b w' => app w' 32 32 Z27 27 A n c (.slice (some ⟨b, 0, none⟩) 1 1) K := by
  refine nw_mk ?_
  rw [List.append_nil]
  have f1 : Fr (fun _ => False) w (w.alloc (.cells (d.map bv).toArray 27)) := Fr.alloc _ _ _
  have r1 : Row (w.alloc (.cells (d.map bv).toArray 27)) 0 27 32 (some ⟨w.heap.size, 0, none⟩) 1 1 (dcs [d]) := by
    rw [dcs_one]; exact Row.new (Nat.zero_le _) (by rw [List.length_map, hd])
  have hs : (w.alloc (.cells (d.map bv).toArray 27)).heap.size = w.heap.size + 1 := alloc_size _ _
  generalize w.alloc (.cells (d.map bv).toArray 27) = w1 at f1 r1 hs ⊢
  have hA : ∀ k, blkOf A = some k → k < w.heap.size := fun k hk => (hr.blt hk).2
  refine app_row (f1.row hr (fun _ _ h => h)) r1.sl.src (dcs_oneCell [d]) (by decide +kernel) (by omega) (by omega) (by omega) (fun A' c' w' hr' f' => hK A' c' w' (by rw [dcs_append]; exact hr') ?_)
  exact f1.trans f' (fun _ _ h => h.elim) (fun _ _ h => h)
theorem Asc.snoc {r : List Dig} {d : Dig} (h : Asc r) (hd : ∀ x ∈ r, LtD x d) : Asc (r ++ [d]) :=
  List.pairwise_append.2 ⟨h, by simp, fun a ha b hb => by simp at hb; subst hb; exact hd a ha⟩
theorem Asc.take {r : List Dig} (h : Asc r) (k : Nat) : Asc (r.take k) := h.sublist (List.take_sublist k r)
set_option maxHeartbeats 1000000 in
theorem put_calls (A : Option Addr) (n c : Nat) (r : List Dig) (d : Dig) (w : World) (h : Sl w 32 A n (dcs r)) (hw : W32 r) (ha : Asc r) (hd : d.length = 32) (hn : n ≤ 1099511627775) :
    Calls Try.prog 18 #[.slice A n c, ofL (d.map bv)] w fun e w' => Fr (fun _ => False) w w' ∧ ∃ A' c' r', e = .returned (.slice A' r'.length c') ∧ Row w' w.heap.size 27 32 A' r'.length c' (dcs r') ∧ W32 r' ∧ Asc r' ∧ r'.length ≤ n + 1 ∧ ∀ x, x ∈ r' ↔ x = d ∨ x ∈ r := by
  refine (F18.of A n c (d.map bv) w (Q := fun v w' => Fr (fun _ => False) w w' ∧ ∃ A' c' r', v = .slice A' r'.length c' ∧ Row w' w.heap.size 27 32 A' r'.length c' (dcs r') ∧ W32 r' ∧ Asc r' ∧ r'.length ≤ n + 1 ∧ ∀ x, x ∈ r' ↔ x = d ∨ x ∈ r) ?_).mono (fun e w' ⟨v, he, hf, A', c', r', hv, h⟩ => ⟨hf, A', c', r', by rw [he, hv], h⟩)
  have hrl := sl_len h hw
  have hp := List.pairwise_iff_getElem.1 ha
  have ld : (d.map bv).length = 32 := by simp [hd]
  refine nw_mk (jnC_mk ?_)
  have f1 : Fr (fun _ => False) w (w.alloc (.cells (d.map bv).toArray 27)) := Fr.alloc _ _ _
  have r1 : RecAt (w.alloc (.cells (d.map bv).toArray 27)) w.heap.size 27 (d.map bv) := RecAt.new w _ _
  have hs1 : (w.alloc (.cells (d.map bv).toArray 27)).heap.size = w.heap.size + 1 := alloc_size _ _
  generalize w.alloc (.cells (d.map bv).toArray 27) = w1 at f1 r1 hs1 ⊢
  generalize hB : w.heap.size = B at *
  -- B + 1: the block of the digest itself is B
  refine loop_rule (fun s u => Fr (fun _ => False) w u ∧ RecAt u B 27 (d.map bv) ∧ ∃ (i : Nat) (out : List Dig) (inn : Bool) (A5 : Option Addr) (c5 : Nat), i ≤ n ∧ s = ((A, n, c), (B, 0), (A5, out.length, c5), inn, (i : Int), ()) ∧ Row u (B + 1) 27 32 A5 out.length c5 (dcs out) ∧ W32 out ∧
      ((inn = false ∧ out = r.take i ∧ ∀ (q : Nat) (x : Dig), q < i → r[q]? = some x → LtD x d) ∨ (inn = true ∧ Asc out ∧ out.length ≤ i + 1 ∧ (∀ x, x ∈ out ↔ x = d ∨ x ∈ r.take i) ∧ ∀ (q : Nat) (x : Dig), i ≤ q → r[q]? = some x → LtD d x)))
    (fun s _ => (n - s.2.2.2.2.1).toNat) ?_ _ _ ⟨f1, r1, 0, [], false, none, 0, by omega, rfl, Row.nil _ _ _ _, (fun x hx => by cases hx), .inl ⟨rfl, rfl, fun q x hq => by omega⟩⟩
  rintro s u C ⟨hf, hr1, i, out, inn, A5, c5, hi, rfl, hr5, hw5, hinv⟩ hC _
  have hus := hf.size
  have hbl := hr1.lt
  have hA5 : ∀ k, blkOf A5 = some k → B + 1 ≤ k := fun k hk => (hr5.blt hk).1
  have hol : out.length ≤ n + 1 := by
    rcases hinv with ⟨_, h', _⟩ | ⟨_, _, h', _⟩
    · rw [h', List.length_take]; omega
    · omega
  have ei : IntKind.wrap .i64 ((i : Int) + 1) = ((i + 1 : Nat) : Int) := by rw [i64_id (by omega) (by omega)]; rfl
  refine vIf_mk (fun hlt => ?_) (fun hge => ?_)
  · have hlt2 : (i : Int) < (n : Int) := of_decide_eq_true hlt
    have gi : r[i]? = some (r[i]'(by omega)) := List.getElem?_eq_getElem (by omega)
    have li := hw.at gi
    obtain ⟨b, o, hA, hcell⟩ := sl_dig (hf.sl h (fun _ _ _ h => h)) hw (i := i) (by omega)
    subst hA
    have ci := hcell i _ gi
    -- the last step: r[i] is appended
    have last : ∀ (u2 : World) (out2 : List Dig) (in2 : Bool) (A2 : Option Addr) (c2 : Nat), Fr (fun k => B + 1 ≤ k) u u2 → Row u2 (B + 1) 27 32 A2 out2.length c2 (dcs out2) → W32 out2 → out2.length ≤ n + 2 → cellsAt u2 b (o + i * 32) ((r[i]'(by omega)).map bv) →
        ((in2 = false ∧ out2 = r.take i ∧ ∀ (q : Nat) (x : Dig), q < i + 1 → r[q]? = some x → LtD x d) ∨ (in2 = true ∧ Asc (out2 ++ [r[i]'(by omega)]) ∧ (out2 ++ [r[i]'(by omega)]).length ≤ i + 2 ∧ (∀ x, x ∈ out2 ++ [r[i]'(by omega)] ↔ x = d ∨ x ∈ r.take (i + 1)) ∧ ∀ (q : Nat) (x : Dig), i + 1 ≤ q → r[q]? = some x → LtD d x)) →
        jnC (F18.k10 (fun v w' => Fr (fun _ => False) w w' ∧ ∃ A' c' r', v = .slice A' r'.length c' ∧ Row w' B 27 32 A' r'.length c' (dcs r') ∧ W32 r' ∧ Asc r' ∧ r'.length ≤ n + 1 ∧ ∀ x, x ∈ r' ↔ x = d ∨ x ∈ r) C) ((some ⟨b, o, none⟩, n, c), (B, 0), (A2, out2.length, c2), in2, (i : Int), ()) u2 := by
      intro u2 out2 in2 A2 c2 fu2 hr2 hw2 hol2 hc2 hinv2
      have hus2 := fu2.size
      refine jnC_mk (fun _ => dr_mk (gd_mk (decide_eq_true (by show (0 : Int) ≤ (i : Int); omega)) (gd_mk (decide_eq_true hlt2) ⟨_, by rw [List.length_map]; exact li, by show cellsAt u2 b (o + ((i : Int)).toNat * 32) _; rw [Int.toNat_natCast]; exact hc2, gd_mk (by rw [List.length_map, li]; rfl) ?_⟩)))
      refine push_dig (n := out2.length) hr2 li (by omega) (by omega) (fun A' c' w' hr' f' => ?_)
      have hA2 : ∀ k, blkOf A2 = some k → B + 1 ≤ k := fun k hk => (hr2.blt hk).1
      have hfw : Fr (fun _ => False) w w' := (hf.trans fu2 (fun _ _ h => h) (fun k hk h' => by omega)).trans f' (fun _ _ h => h) (fun k hk h' => by have := hA2 k h'; omega)
      have hfB : Fr (fun k => B + 1 ≤ k) u w' := fu2.trans1 (f'.mono (fun k _ hk => hA2 k hk))
      have hl1 : out2.length + 1 = (out2 ++ [r[i]'(by omega)]).length := by simp
      refine jnC_mk (hC _ _ ⟨hfw, hr1.fr hfB (fun h => by omega), i + 1, out2 ++ [r[i]'(by omega)], in2, A', c', by omega, ?_, by rw [← hl1]; exact hr', ?_, ?_⟩ ?_)
      · show (_, _, _, _, IntKind.wrap .i64 ((i : Int) + 1), ()) = _
        rw [ei, hl1]
      · intro x hx
        rcases List.mem_append.1 hx with h1 | h1
        · exact hw2 x h1
        · simp at h1; subst h1; exact li
      · rcases hinv2 with ⟨h1, h2, h3⟩ | ⟨h1, h2, h3, h4⟩
        · exact .inl ⟨h1, by rw [List.take_add_one, gi, h2]; rfl, h3⟩
        · exact .inr ⟨h1, h2, h3, h4⟩
      · show ((n : Int) - IntKind.wrap .i64 ((i : Int) + 1)).toNat < ((n : Int) - (i : Int)).toNat
        rw [ei]; omega
    rcases hinv with ⟨rfl, hout, hlo⟩ | ⟨rfl, hasc, hol3, hmem, hhi⟩
    · refine vIf_t rfl (dr_mk (gd_mk (decide_eq_true (by show (0 : Int) ≤ (i : Int); omega)) (gd_mk (decide_eq_true hlt2) ⟨_, by rw [List.length_map]; exact li, by show cellsAt u.drew b (o + ((i : Int)).toNat * 32) _; rw [Int.toNat_natCast]; exact ci, _, ld, cellsB (show RecAt u.drew B _ _ from hr1), (less_calls _ d u.drew li hd).mono ?_⟩)))
      rintro e u2 ⟨rfl, f2⟩
      have fu2 : Fr (fun _ => False) u u2 := (Fr.drew _ _).trans1 f2
      refine ⟨_, rfl, jnC_mk (fun _ => ?_)⟩
      by_cases hl : LtD (r[i]'(by omega)) d
      · rw [decide_eq_true (p := compareBytes _ _ < 0) hl]
        refine vIf_f rfl (last u2 out false A5 c5 (fu2.mono (fun _ _ h => h.elim)) (fu2.row hr5 (fun _ _ h => h)) hw5 (by omega) (fu2.cells ci (fun h => h)) (.inl ⟨rfl, hout, fun q x hq hx => ?_⟩))
        by_cases hqi : q = i
        · subst hqi; rw [gi] at hx; injection hx with hx; subst hx; exact hl
        · exact hlo q x (by omega) hx
      · rw [decide_eq_false (p := compareBytes _ _ < 0) hl]
        have hdle : LeD d (r[i]'(by omega)) := by
          unfold LtD at hl; unfold LeD
          have := cmp_anti d (r[i]'(by omega))
          omega
        have hall : ∀ x ∈ out, LtD x d := by
          intro x hx
          rw [hout] at hx
          obtain ⟨q, hq, hqx⟩ := List.mem_iff_getElem.1 hx
          rw [List.length_take] at hq
          rw [List.getElem_take] at hqx
          exact hlo q x (by omega) (by rw [List.getElem?_eq_getElem (by omega), hqx])
        have hascO : Asc out := by rw [hout]; exact ha.take i
        have hgt : ∀ (q : Nat) (x : Dig), i + 1 ≤ q → r[q]? = some x → LtD d x := by
          intro q x hq hx
          have hql := (List.getElem?_eq_some_iff.1 hx).1
          have hxe : r[q]'hql = x := (List.getElem?_eq_some_iff.1 hx).2
          rw [← hxe]
          exact leD_lt hdle (hp i q (by omega) hql (by omega))
        refine vIf_t rfl ?_
        have fu2d : Fr (fun _ => False) u u2.drew := fu2.trans1 (Fr.drew _ _)
        refine dr_mk (gd_mk (decide_eq_true (by show (0 : Int) ≤ (i : Int); omega)) (gd_mk (decide_eq_true hlt2) ⟨_, by rw [List.length_map]; exact li, by show cellsAt u2.drew b (o + ((i : Int)).toNat * 32) _; rw [Int.toNat_natCast]; exact fu2d.cells ci (fun h => h), _, ld, cellsB (hr1.fr fu2d (fun h => h)), eqAB_bytes li hd ?_⟩))
        refine vIf_mk (fun hne => ?_) (fun heq => ?_)
        · have hne2 : r[i]'(by omega) ≠ d := by
            intro he; rw [he] at hne; simp at hne
          have hdlt : LtD d (r[i]'(by omega)) := hdle.lt (fun h => hne2 h.symm)
          refine ⟨_, ld, cellsB (hr1.fr fu2d (fun h => h)), gd_mk (by rw [ld]; rfl) ?_⟩
          refine push_dig (n := out.length) (fu2d.row hr5 (fun _ _ h => h)) hd (by have := fu2d.size; omega) (by omega) (fun A' c' w' hr' f' => ?_)
          have hl1 : out.length + 1 = (out ++ [d]).length := by simp
          have hfB : Fr (fun k => B + 1 ≤ k) u w' := (fu2d.mono (fun _ _ h => h.elim)).trans1 (f'.mono (fun k _ hk => hA5 k hk))
          have hbl2 : ¬ (B + 1 ≤ b) ∨ True := .inr trivial
          rw [hl1] at hr' ⊢
          refine last w' (out ++ [d]) true A' c' hfB hr' ?_ (by rw [← hl1]; omega) ?_ (.inr ⟨rfl, ?_, ?_, fun x => ?_, hgt⟩)
          · intro x hx
            rcases List.mem_append.1 hx with h1 | h1
            · exact hw5 x h1
            · simp at h1; subst h1; exact hd
          · have hbA := h.blt (by decide) (by omega) (b := b) rfl
            exact hfB.cells ci (fun h' => by omega)
          · exact (hascO.snoc hall).snoc (fun x hx => by
              rcases List.mem_append.1 hx with h1 | h1
              · exact (hall x h1).trans hdlt
              · simp at h1; subst h1; exact hdlt)
          · rw [hout]; simp; omega
          · rw [List.take_add_one, gi]
            simp only [List.mem_append, List.mem_singleton, Option.toList_some, hout]
            constructor
            · rintro ((h1 | h1) | h1)
              · exact .inr (.inl h1)
              · exact .inl h1
              · exact .inr (.inr h1)
            · rintro (h1 | h1 | h1)
              · exact .inl (.inr h1)
              · exact .inl (.inl h1)
              · exact .inr h1
        · have heq2 : r[i]'(by omega) = d := by simpa using heq
          refine last u2.drew out true A5 c5 (fu2d.mono (fun _ _ h => h.elim)) (fu2d.row hr5 (fun _ _ h => h)) hw5 (by omega) (fu2d.cells ci (fun h => h)) (.inr ⟨rfl, ?_, ?_, fun x => ?_, hgt⟩)
          · exact hascO.snoc (fun x hx => by rw [heq2]; exact hall x hx)
          · rw [hout]; simp; omega
          · rw [List.take_add_one, gi]
            simp only [List.mem_append, List.mem_singleton, Option.toList_some, hout, heq2]
            constructor
            · rintro (h1 | h1)
              · exact .inr (.inl h1)
              · exact .inl h1
            · rintro (h1 | h1 | h1)
              · exact .inr h1
              · exact .inl h1
              · exact .inr h1
    · refine vIf_f rfl (jnC_mk (fun _ => vIf_f rfl ?_))
      have fd : Fr (fun _ => False) u u.drew := Fr.drew _ _
      have hdi : LtD d (r[i]'(by omega)) := hhi i _ (Nat.le_refl _) gi
      refine last u.drew out true A5 c5 (fd.mono (fun _ _ h => h.elim)) (fd.row hr5 (fun _ _ h => h)) hw5 (by omega) (fd.cells ci (fun h => h)) (.inr ⟨rfl, ?_, ?_, fun x => ?_, fun q x hq hx => hhi q x (by omega) hx⟩)
      · refine hasc.snoc (fun x hx => ?_)
        rcases (hmem x).1 hx with h1 | h1
        · subst h1; exact hdi
        · obtain ⟨q, hq, hqx⟩ := List.mem_iff_getElem.1 h1
          rw [List.length_take] at hq
          rw [List.getElem_take] at hqx
          rw [← hqx]
          exact hp q i (by omega) (by omega) (by omega)
      · simp; omega
      · rw [List.take_add_one, gi]
        simp only [List.mem_append, List.mem_singleton, Option.toList_some, hmem]
        constructor
        · rintro ((h1 | h1) | h1)
          · exact .inl h1
          · exact .inr (.inl h1)
          · exact .inr (.inr h1)
        · rintro (h1 | h1 | h1)
          · exact .inl (.inl h1)
          · exact .inl (.inr h1)
          · exact .inr h1
  · have hge2 : ¬ (i : Int) < (n : Int) := of_decide_eq_false hge
    have hin : i = n := by omega
    subst hin
    rcases hinv with ⟨rfl, hout, hlo⟩ | ⟨rfl, hasc, hol3, hmem, hhi⟩
    · rw [List.take_of_length_le (by omega)] at hout
      refine vIf_t rfl ⟨_, ld, cellsB hr1, gd_mk (by rw [ld]; rfl) ?_⟩
      refine push_dig (n := out.length) hr5 hd (by omega) (by omega) (fun A' c' w' hr' f' => ?_)
      have hl1 : out.length + 1 = (out ++ [d]).length := by simp
      have hfw : Fr (fun _ => False) w w' := hf.trans f' (fun _ _ h => h) (fun k hk h' => by have := hA5 k h'; omega)
      rw [hl1] at hr' ⊢
      refine ⟨hfw, A', c', out ++ [d], rfl, ⟨hr'.len, hr'.le, ?_⟩, ?_, ?_, by simp [hout, hrl], fun x => ?_⟩
      · rcases hr'.at_ with h' | ⟨b', cs', q1, q2, q3⟩
        · exact .inl h'
        · exact .inr ⟨b', cs', q1, by omega, q3⟩
      · intro x hx
        rcases List.mem_append.1 hx with h1 | h1
        · exact hw5 x h1
        · simp at h1; subst h1; exact hd
      · rw [hout]
        exact ha.snoc (fun x hx => by
          obtain ⟨q, hq, hqx⟩ := List.mem_iff_getElem.1 hx
          exact hlo q x (by omega) (by rw [List.getElem?_eq_getElem hq, hqx]))
      · rw [hout]; simp only [List.mem_append, List.mem_singleton]
        exact Or.comm
    · rw [List.take_of_length_le (by omega)] at hmem
      refine vIf_f rfl ⟨hf, A5, c5, out, rfl, ⟨hr5.len, hr5.le, ?_⟩, hw5, hasc, hol, hmem⟩
      rcases hr5.at_ with h' | ⟨b', cs', q1, q2, q3⟩
      · exact .inl h'
      · exact .inr ⟨b', cs', q1, by omega, q3⟩
end Go.Proofs.Ytbifohpdlknjiaa
