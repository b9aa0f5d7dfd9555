/- chapter 51: the program's and the document's rows; the law -/
import Derived.Test.YtegihbpdemjeaaaDoorHI
import Derived.Test.YtegihbpdemjeaaaDoorG14
namespace Go.Proofs.YtegihbpdemjeaaaDoor
open Go.GV Go.RowKit Go.Lib
set_option linter.unusedVariables false
set_option linter.unusedSimpArgs false
theorem rows_calls (A : Option Addr) (n c : Nat) (r : List Bs) (w : World) (h : Sl w 1 A n (bvs r)) (hw : Sm r) (hn : n ≤ 1099511627776) :
    Calls Tryd.prog 21 #[.slice A n c, .func (.func 6) #[] #[]] w fun e w' => Fr (fun _ => False) w w' ∧ ∃ A' c' r', e = .returned (.slice A' r'.length c') ∧ Row w' w.heap.size 9 1 A' r'.length c' (bvs r') ∧ Asc r' ∧ r'.length ≤ n ∧ ∀ d, d ∈ r' ↔ d ∈ r := by
  refine (F21s.of A n c w (Q := fun v w' => Fr (fun _ => False) w w' ∧ ∃ A' c' r', v = .slice A' r'.length c' ∧ Row w' w.heap.size 9 1 A' r'.length c' (bvs r') ∧ Asc r' ∧ r'.length ≤ n ∧ ∀ d, d ∈ r' ↔ d ∈ r) ?_).mono (fun e w' ⟨v, he, hf, A', c', r', hv, h⟩ => ⟨hf, A', c', r', by rw [he, hv], h⟩)
  have hrl := bs_n h
  refine (clone_v A n c r w h hn).mono ?_
  rintro e w1 ⟨A1, c1, rfl, f1, h1⟩
  refine ⟨_, _, _, rfl, ?_⟩
  have fin : ∀ (u : World) (r1 : List Bs), Fr (fun k => blkOf A1 = some k) w1 u → Row u w.heap.size 9 1 A1 n c1 (bvs r1) → r1.Perm r → r1.Pairwise LeV →
      Calls Tryd.prog 29 #[.slice A1 n c1] u fun e9 w8 => ∃ (A10 : Option Addr) (n11 c12 : Nat), e9 = .returned (.slice A10 n11 c12) ∧ (Fr (fun _ => False) w w8 ∧ ∃ A' c' r', Value.slice A10 n11 c12 = .slice A' r'.length c' ∧ Row w8 w.heap.size 9 1 A' r'.length c' (bvs r') ∧ Asc r' ∧ r'.length ≤ n ∧ ∀ d, d ∈ r' ↔ d ∈ r) := by
    intro u r1 fu hr1 hp hs
    have hl1 := bs_n hr1.sl
    refine (compact_v w.heap.size _ A1 c1 r1 n u hr1 hn).mono ?_
    rintro e w8 ⟨rfl, f8, h8⟩
    refine ⟨_, _, _, rfl, ?_, A1, c1, cpt r1 n, rfl, h8, cpt_asc hs n (by omega), cpt_len r1 n, fun d => ?_⟩
    · have hA : ∀ k, blkOf A1 = some k → w.heap.size ≤ k := fun k hk => (h1.blt hk).1
      exact (f1.trans fu (fun _ _ h => h) (fun k hk h' => by have := hA k h'; omega)).trans f8 (fun _ _ h => h) (fun k hk h' => by have := hA k h'; omega)
    · rw [cpt_mem, List.take_of_length_le (by omega)]; exact hp.mem_iff
  cases A1 with
  | none =>
    have hn0 : n = 0 ∧ c1 = 0 := by
      rcases h1.at_ with ⟨_, h', h''⟩ | ⟨_, _, h', _⟩
      · exact ⟨h', h''⟩
      · cases h'
    obtain ⟨rfl, rfl⟩ := hn0
    have : r = [] := List.length_eq_zero_iff.1 hrl
    subst this
    refine (sort_nil 0 w1).mono ?_
    rintro e w2 ⟨rfl, rfl⟩
    exact ⟨rfl, fin w2 [] (Fr.refl _ _) h1 (List.Perm.refl _) List.Pairwise.nil⟩
  | some a =>
    have ha : ∃ b, a = ⟨b, 0, none⟩ := by
      rcases h1.at_ with ⟨h', _⟩ | ⟨b, _, h', _⟩
      · cases h'
      · exact ⟨b, Option.some.inj h'⟩
    obtain ⟨b, rfl⟩ := ha
    refine (sort_v w.heap.size _ b c1 r n w1 h1 hw (by omega)).mono ?_
    rintro e w2 ⟨rfl, f2, r2, hw2, hr2, hp, hs⟩
    exact ⟨rfl, fin w2 r2 (f2.mono (fun k _ hk => by subst hk; rfl)) hr2 hp hs⟩
theorem row_calls (A : Option Addr) (n c : Nat) (r : List Bs) (w : World) (h : Sl w 1 A n (bvs r)) (hw : Sm r) (hn : n ≤ 1099511627776) :
    Calls Tryd.prog 12 #[.slice A n c] w fun e w' => Fr (fun _ => False) w w' ∧ ∃ A' c' r', e = .returned (.slice A' r'.length c') ∧ Row w' w.heap.size 9 1 A' r'.length c' (bvs r') ∧ Asc r' ∧ r'.length ≤ n ∧ ∀ d, d ∈ r' ↔ d ∈ r := by
  refine (F12.of A n c w (Q := fun v w' => Fr (fun _ => False) w w' ∧ ∃ A' c' r', v = .slice A' r'.length c' ∧ Row w' w.heap.size 9 1 A' r'.length c' (bvs r') ∧ Asc r' ∧ r'.length ≤ n ∧ ∀ d, d ∈ r' ↔ d ∈ r) ?_).mono (fun e w' ⟨v, he, hf, A', c', r', hv, h⟩ => ⟨hf, A', c', r', by rw [he, hv], h⟩)
  refine (rows_calls A n c r w h hw hn).mono ?_
  rintro e w1 ⟨f1, A', c', r', rfl, hx⟩
  exact ⟨_, _, _, rfl, f1, A', c', r', rfl, hx⟩
/-- a name lies on its own block; the row's end -/
theorem push_v {w : World} {B : Nat} {A : Option Addr} {n c : Nat} {out : List Bs} {x : Bs} {K : Option Addr → Nat → Nat → World → Prop} (hr : Row w B 9 1 A n c (bvs out)) (hB : B ≤ w.heap.size) (hn : n ≤ 1099511627776)
    (hK : ∀ A' c' w', Row w' B 9 1 A' (n + 1) c' (bvs (out ++ [x])) → Fr (fun k => blkOf A = some k) w w' → K A' (n + 1) c' w') : nw w ([Value.string (ba x)] ++ []) 9 fun b w' => app w' 1 16 [Value.string (⟨#[]⟩ : ByteArray)] 9 A n c (.slice (some ⟨b, 0, none⟩) 1 1) K :=
  push_s hr hB hn (fun A' c' w' h f => hK A' c' w' (by rw [bvs, List.map_append]; exact h) f)
theorem Sm.at {r : List Bs} (h : Sm r) {i : Nat} {x : Bs} (hi : r[i]? = some x) : x.length ≤ 4294967296 := h x (List.mem_of_getElem? hi)
set_option maxHeartbeats 1000000 in
theorem rrow_calls (A : Option Addr) (n c : Nat) (r : List Bs) (w : World) (h : Sl w 1 A n (bvs r)) (hw : Sm r) (hn : n ≤ 1099511627775) :
    Calls Tryd.prog 13 #[.slice A n c] w fun e w' => Fr (fun _ => False) w w' ∧ ∃ A' c' r', e = .returned (.slice A' r'.length c') ∧ Row w' w.heap.size 9 1 A' r'.length c' (bvs r') ∧ Asc r' ∧ r'.length ≤ n ∧ ∀ d, d ∈ r' ↔ d ∈ r := by
  refine (F13.of A n c w (Q := fun v w' => Fr (fun _ => False) w w' ∧ ∃ A' c' r', v = .slice A' r'.length c' ∧ Row w' w.heap.size 9 1 A' r'.length c' (bvs r') ∧ Asc r' ∧ r'.length ≤ n ∧ ∀ d, d ∈ r' ↔ d ∈ r) ?_).mono (fun e w' ⟨v, he, hf, A', c', r', hv, h⟩ => ⟨hf, A', c', r', by rw [he, hv], h⟩)
  have hrl := bs_n h
  refine jnC_mk (loop_rule (fun s u => Fr (fun _ => False) w u ∧ ∃ (i : Nat) (out : List Bs) (A5 : Option Addr) (c5 : Nat), i ≤ n ∧ s = ((A, n, c), (A5, out.length, c5), (i : Int), ()) ∧ Row u w.heap.size 9 1 A5 out.length c5 (bvs out) ∧ Asc out ∧ out.length ≤ i ∧ ∀ x, x ∈ out ↔ x ∈ r.take i)
    (fun s _ => (n - s.2.2.1).toNat) ?_ _ _ ⟨Fr.refl _ _, 0, [], none, 0, by omega, rfl, Row.nil _ _ _ _, List.Pairwise.nil, Nat.le_refl _, fun x => by simp⟩)
  rintro s u C ⟨hf, i, out, A5, c5, hi, rfl, hr5, ha5, hol, hmem⟩ hC _
  have hus := hf.size
  have hA5 : ∀ k, blkOf A5 = some k → w.heap.size ≤ k := fun k hk => (hr5.blt hk).1
  refine vIf_mk (fun hlt => ?_) (fun hge => ?_)
  · have hlt2 : (i : Int) < (n : Int) := of_decide_eq_true hlt
    have gi : r[i]? = some (r[i]'(by omega)) := List.getElem?_eq_getElem (by omega)
    generalize r[i]'(by omega) = x at gi
    have lx := hw.at gi
    have ms : ((n : Int) - IntKind.wrap .i64 ((i : Int) + 1)).toNat < ((n : Int) - (i : Int)).toNat := by rw [ei i (by omega)]; omega
    have hout : Sm out := fun y hy => hw y (List.mem_of_mem_take ((hmem y).1 hy))
    -- the row behind this round
    have next : ∀ (u2 : World) (A6 : Option Addr) (c6 : Nat) (r6 : List Bs), Fr (fun _ => False) w u2 → Row u2 w.heap.size 9 1 A6 r6.length c6 (bvs r6) → Asc r6 → r6.length ≤ out.length + 1 → (∀ z, z ∈ r6 ↔ z = x ∨ z ∈ out) → C ((A, n, c), (A6, r6.length, c6), IntKind.wrap .i64 ((i : Int) + 1), ()) u2 := by
      intro u2 A6 c6 r6 f2 hr6 ha6 hl6 hm6
      refine hC _ _ ⟨f2, i + 1, r6, A6, c6, by omega, by rw [ei i (by omega)], hr6, ha6, by omega, fun z => ?_⟩ ms
      rw [hm6, hmem, List.take_add_one, gi]
      simp only [List.mem_append, Option.toList_some, List.mem_singleton]
      exact Or.comm
    refine jnC_mk (loop_rule (fun s v => Fr (fun _ => False) w v ∧ u.heap.size ≤ v.heap.size ∧ Row v w.heap.size 9 1 A5 out.length c5 (bvs out) ∧ ∃ (k : Nat) (nx : List Bs) (dn : Bool) (A7 : Option Addr) (c7 : Nat), k ≤ out.length ∧ s = ((A, n, c), (A5, out.length, c5), (i : Int), (A7, nx.length, c7), dn, (k : Int), ()) ∧ Row v u.heap.size 9 1 A7 nx.length c7 (bvs nx) ∧ InsI x out k nx dn)
      (fun s _ => (out.length - s.2.2.2.2.2.1).toNat) ?_ _ _ ⟨hf, Nat.le_refl _, hr5, 0, [], false, none, 0, by omega, rfl, Row.nil _ _ _ _, InsI.start x out⟩)
    clear hC
    rintro s v C8 ⟨fv, huv, hr5v, k, nx, dn, A7, c7, hk, rfl, hr7, hI⟩ hC8 _
    have hnl := hI.len
    have hnl : nx.length ≤ k + 1 := by split at hnl <;> omega
    have h7 : ∀ j, blkOf A7 = some j → u.heap.size ≤ j ∧ j < v.heap.size := fun j hj => hr7.blt hj
    have h5b : ∀ j, blkOf A5 = some j → j < u.heap.size := fun j hj => (hr5.blt hj).2
    have ek := ei k (by omega)
    have ms2 : ((out.length : Int) - IntKind.wrap .i64 ((k : Int) + 1)).toNat < ((out.length : Int) - (k : Int)).toNat ∨ ¬ k < out.length := by
      by_cases hko : k < out.length
      · left; rw [ek]; omega
      · exact .inr hko
    -- what is laid on the new row alone
    have own : ∀ {v1 v2 : World} {A8 : Option Addr} {n8 c8 : Nat} {l8 : List Value}, Fr (fun _ => False) w v1 → u.heap.size ≤ v1.heap.size → Row v1 w.heap.size 9 1 A5 out.length c5 (bvs out) → Row v1 u.heap.size 9 1 A8 n8 c8 l8 → Fr (fun j => blkOf A8 = some j) v1 v2 → Fr (fun _ => False) w v2 ∧ u.heap.size ≤ v2.heap.size ∧ Row v2 w.heap.size 9 1 A5 out.length c5 (bvs out) := by
      intro v1 v2 A8 n8 c8 l8 g1 g2 g3 g4 g5
      exact ⟨g1.trans g5 (fun _ _ h => h) (fun j hj h' => by have := (g4.blt h').1; omega), by have := g5.size; omega, g5.row g3 (fun j hj h' => by have := (g4.blt h').1; have := h5b j hj; omega)⟩
    refine vIf_mk (fun hkl => ?_) (fun hkg => ?_)
    · have hkl2 : (k : Int) < (out.length : Int) := of_decide_eq_true hkl
      have gk : out[k]? = some (out[k]'(by omega)) := List.getElem?_eq_getElem (by omega)
      generalize out[k]'(by omega) = y at gk
      have ly := hout.at gk
      -- out[k] is put behind, and the next round
      have push : ∀ (v1 : World) (A8 : Option Addr) (c8 : Nat) (l8 : List Bs) (d8 : Bool), Fr (fun _ => False) w v1 → u.heap.size ≤ v1.heap.size → Row v1 w.heap.size 9 1 A5 out.length c5 (bvs out) → Row v1 u.heap.size 9 1 A8 l8.length c8 (bvs l8) → l8.length ≤ k + 2 → InsI x out (k + 1) (l8 ++ [y]) d8 →
          F13.k14 (fun v w' => Fr (fun _ => False) w w' ∧ ∃ A' c' r', v = .slice A' r'.length c' ∧ Row w' w.heap.size 9 1 A' r'.length c' (bvs r') ∧ Asc r' ∧ r'.length ≤ n ∧ ∀ d, d ∈ r' ↔ d ∈ r) C C8 ((A, n, c), (A5, out.length, c5), (i : Int), (A8, l8.length, c8), d8, (k : Int), ()) v1 := by
        intro v1 A8 c8 l8 d8 g1 g2 g3 g4 g5 g6
        intro _
        refine bs_rd g3.sl (by omega) gk (push_v g4 g2 (by show l8.length ≤ _; omega) (fun A9 c9 v2 q1 q2 => jnC_mk (hC8 _ _ ?_ (ms2.resolve_right (by omega)))))
        obtain ⟨z1, z2, z3⟩ := own g1 g2 g3 g4 q2
        exact ⟨z1, z2, z3, k + 1, l8 ++ [y], d8, A9, c9, by omega, by rw [ek, List.length_append]; rfl, by rw [List.length_append]; exact q1, g6⟩
      have fd := fv.trans1 (Fr.drew (fun _ => False) v)
      have hr5d := (Fr.drew (fun _ => False) v).row hr5v (fun _ _ h => h)
      have hr7d := (Fr.drew (fun _ => False) v).row hr7 (fun _ _ h => h)
      have hsd := fd.sl h (fun _ _ _ h => h)
      -- the second question
      have k11 : ∀ (t : Bool) (v1 : World), Fr (fun _ => False) v v1 → (t = true → dn = false ∧ (y = x ∨ LtV x y)) → (t = false → dn = true ∨ (y ≠ x ∧ ¬ LtV x y)) →
          jnC (F13.k11 (fun v w' => Fr (fun _ => False) w w' ∧ ∃ A' c' r', v = .slice A' r'.length c' ∧ Row w' w.heap.size 9 1 A' r'.length c' (bvs r') ∧ Asc r' ∧ r'.length ≤ n ∧ ∀ d, d ∈ r' ↔ d ∈ r) C C8) ((A, n, c), (A5, out.length, c5), (i : Int), (A7, nx.length, c7), dn, (k : Int), t, ()) v1 := by
        intro t v1 g ht1 ht2
        have g1 := fv.trans1 g
        have g2 : u.heap.size ≤ v1.heap.size := by have := g.size; omega
        have g3 := g.row hr5v (fun _ _ h => h)
        have g4 := g.row hr7 (fun _ _ h => h)
        refine jnC_mk (fun _ => vIf_mk (fun htt => ?_) (fun htf => ?_))
        · obtain ⟨rfl, hor⟩ := ht1 htt
          have gd1 := g1.trans1 (Fr.drew (fun _ => False) v1)
          have g2d : u.heap.size ≤ v1.drew.heap.size := g2
          have g3d := (Fr.drew (fun _ => False) v1).row g3 (fun _ _ h => h)
          have g4d := (Fr.drew (fun _ => False) v1).row g4 (fun _ _ h => h)
          have gsd := gd1.sl h (fun _ _ _ h => h)
          refine bs_rd g3d.sl (by omega) gk (bs_rd gsd (by omega) gi ?_)
          rw [ba_ne]
          refine vIf_mk (fun hne => ?_) (fun he => ?_)
          · have hne : y ≠ x := by simpa using hne
            refine bs_rd gsd (by omega) gi (push_v g4d g2d (by show nx.length ≤ _; omega) (fun A9 c9 v2 q1 q2 => jnC_mk ?_))
            obtain ⟨z1, z2, z3⟩ := own gd1 g2d g3d g4d q2
            have hp := push v2 A9 c9 (nx ++ [x]) true z1 z2 z3 (by rw [List.length_append]; exact q1) (by rw [List.length_append]; simp; omega) (hI.ahead ha5 gk (hor.resolve_left hne))
            rw [List.length_append] at hp
            exact hp
          · have he : y = x := by simpa using he
            subst he
            exact jnC_mk (push v1.drew A7 c7 nx true gd1 g2d g3d g4d (by omega) (hI.same ha5 gk))
        · refine jnC_mk (push v1 A7 c7 nx dn g1 g2 g3 g4 (by omega) ?_)
          cases dn with
          | true => exact hI.done ha5 gk
          | false =>
            obtain ⟨h1, h2⟩ := (ht2 htf).resolve_left (by decide)
            exact hI.past ha5 gk h1 h2
      refine vIf_mk (fun hdn => ?_) (fun hdn => ?_)
      · have hdn : dn = false := by simpa using hdn
        subst hdn
        refine bs_rd hr5d.sl (by omega) gk (bs_rd hsd (by omega) gi ?_)
        rw [ba_beq]
        refine vIf_mk (fun he => ?_) (fun hne => ?_)
        · exact k11 true v.drew (Fr.drew _ _) (fun _ => ⟨rfl, .inl (of_decide_eq_true he)⟩) (fun h => by cases h)
        · have hne : y ≠ x := of_decide_eq_false hne
          refine bs_rd hsd (by omega) gi (bs_rd hr5d.sl (by omega) gk ((rLess_calls x y v.drew lx ly).mono ?_))
          rintro e v2 ⟨rfl, g2⟩
          refine ⟨_, rfl, k11 _ v2 ((Fr.drew _ _).trans1 g2) (fun ht => ⟨rfl, .inr (of_decide_eq_true (p := verC x y < 0) ht)⟩) (fun ht => .inr ⟨hne, of_decide_eq_false (p := verC x y < 0) ht⟩)⟩
      · have hdn : dn = true := by simpa using hdn
        subst hdn
        exact k11 false v.drew (Fr.drew _ _) (fun h => by cases h) (fun _ => .inl rfl)
    · have hkg : ¬ (k : Int) < (out.length : Int) := of_decide_eq_false hkg
      obtain rfl : k = out.length := by omega
      obtain ⟨hT, hF⟩ := hI.fin ha5
      -- a row that begins no earlier than the world's end, as the caller sees it
      have wide : ∀ {v1 : World} {A8 : Option Addr} {n8 c8 : Nat} {l8 : List Value}, Row v1 u.heap.size 9 1 A8 n8 c8 l8 → Row v1 w.heap.size 9 1 A8 n8 c8 l8 := by
        intro v1 A8 n8 c8 l8 g
        refine ⟨g.len, g.le, ?_⟩
        rcases g.at_ with h' | ⟨b', cs', q1, q2, q3⟩
        · exact .inl h'
        · exact .inr ⟨b', cs', q1, by omega, q3⟩
      refine vIf_mk (fun hdn => ?_) (fun hdn => ?_)
      · have hdn : dn = false := by simpa using hdn
        obtain ⟨q1, q2, q3⟩ := hF hdn
        refine bs_rd (fv.sl h (fun _ _ _ h => h)) (by omega) gi (push_v hr7 huv (by show nx.length ≤ _; omega) (fun A9 c9 v2 p1 p2 => jnC_mk ?_))
        obtain ⟨z1, z2, z3⟩ := own fv huv hr5v hr7 p2
        have hp := next v2 A9 c9 (nx ++ [x]) z1 (wide (by rw [List.length_append]; exact p1)) q1 q2 q3
        rw [List.length_append] at hp
        exact hp
      · have hdn : dn = true := by simpa using hdn
        obtain ⟨q1, q2, q3⟩ := hT hdn
        exact jnC_mk (next v A7 c7 nx fv (wide hr7) q1 q2 q3)
  · have hge2 : ¬ (i : Int) < (n : Int) := of_decide_eq_false hge
    refine ⟨hf, A5, c5, out, rfl, hr5, ha5, by omega, fun x => ?_⟩
    rw [hmem, List.take_of_length_le (by omega)]
/-! ### the last ones -/
theorem last_calls (A : Option Addr) (n c : Nat) (r : List Bs) (m : Int) (w : World) (h : Sl w 1 A n (bvs r)) (hw : Sm r) (hn : n ≤ 1099511627776) (hm : -9223372036854775808 ≤ m ∧ m ≤ 9223372036854775807) :
    Calls Tryd.prog 14 #[.slice A n c, .int .i64 m] w fun e w' => Fr (fun _ => False) w w' ∧ ∃ A' c' r', e = .returned (.slice A' (lastV r' m).length c') ∧ Sl w' 1 A' (lastV r' m).length (bvs (lastV r' m)) ∧ Asc r' ∧ r'.length ≤ n ∧ ∀ d, d ∈ r' ↔ d ∈ r := by
  refine (F14.of A n c m w (Q := fun v w' => Fr (fun _ => False) w w' ∧ ∃ A' c' r', v = .slice A' (lastV r' m).length c' ∧ Sl w' 1 A' (lastV r' m).length (bvs (lastV r' m)) ∧ Asc r' ∧ r'.length ≤ n ∧ ∀ d, d ∈ r' ↔ d ∈ r) ?_).mono (fun e w' ⟨v, he, hf, A', c', r', hv, h⟩ => ⟨hf, A', c', r', by rw [he, hv], h⟩)
  refine (row_calls A n c r w h hw hn).mono ?_
  rintro e w1 ⟨f1, A1, c1, r1, rfl, h1, ha1, hl1, hm1⟩
  refine ⟨_, _, _, rfl, ?_⟩
  obtain ⟨k, hk, hkl, hkd⟩ : ∃ k : Nat, (if 0 < (IntKind.wrap .i64 (((r1.length : Nat) : Int) - (if 0 < m then m else 0))) then (IntKind.wrap .i64 (((r1.length : Nat) : Int) - (if 0 < m then m else 0))) else 0) = (k : Int) ∧ k ≤ r1.length ∧ lastV r1 m = r1.drop k := by
    by_cases h0 : m > 0
    · rw [if_pos (show 0 < m by omega), i64_id (by omega) (by omega)]
      refine ⟨r1.length - m.toNat, ?_, by omega, by unfold lastV; rw [if_pos h0]⟩
      by_cases h1 : (0 : Int) < (r1.length : Int) - m
      · rw [if_pos h1]; omega
      · rw [if_neg h1]; omega
    · rw [if_neg (show ¬ 0 < m by omega), Int.sub_zero, i64_id (by omega) (by omega)]
      refine ⟨r1.length, ?_, Nat.le_refl _, by unfold lastV; rw [if_neg h0, List.drop_length]⟩
      by_cases h1 : (0 : Int) < (r1.length : Int)
      · rw [if_pos h1]
      · rw [if_neg h1]; omega
  rw [hk]
  refine gd_mk (decide_eq_true (by omega)) (gd_mk (decide_eq_true (by omega)) ⟨f1, slA A1 c1 k 1, c1 - k, r1, ?_, ?_, ha1, hl1, hm1⟩)
  · rw [Int.toNat_natCast, hkd, List.length_drop]
  · have ht := Row.tailS h1 hkl
    rw [Nat.mul_one] at ht
    rw [hkd, List.length_drop]
    have e : bvs (r1.drop k) = (bvs r1).drop k := by simp [bvs, svs, List.map_drop]
    rw [e]; exact ht
set_option maxHeartbeats 1000000 in
theorem rlast_calls (A : Option Addr) (n c : Nat) (r : List Bs) (m : Int) (w : World) (h : Sl w 1 A n (bvs r)) (hw : Sm r) (hn : n ≤ 1099511627775) (hm : -9223372036854775808 ≤ m ∧ m ≤ 9223372036854775807) :
    Calls Tryd.prog 15 #[.slice A n c, .int .i64 m] w fun e w' => Fr (fun _ => False) w w' ∧ ∃ A' c' r', e = .returned (.slice A' (lastV r' m).length c') ∧ Sl w' 1 A' (lastV r' m).length (bvs (lastV r' m)) ∧ Asc r' ∧ r'.length ≤ n ∧ ∀ d, d ∈ r' ↔ d ∈ r := by
  refine (F15.of A n c m w (Q := fun v w' => Fr (fun _ => False) w w' ∧ ∃ A' c' r', v = .slice A' (lastV r' m).length c' ∧ Sl w' 1 A' (lastV r' m).length (bvs (lastV r' m)) ∧ Asc r' ∧ r'.length ≤ n ∧ ∀ d, d ∈ r' ↔ d ∈ r) ?_).mono (fun e w' ⟨v, he, hf, A', c', r', hv, h⟩ => ⟨hf, A', c', r', by rw [he, hv], h⟩)
  refine (rrow_calls A n c r w h hw hn).mono ?_
  rintro e w1 ⟨f1, A1, c1, r1, rfl, h1, ha1, hl1, hm1⟩
  have h1s := h1.sl
  refine ⟨_, _, _, rfl, jnC_mk (loop_rule (fun s u => Fr (fun _ => False) w1 u ∧ ∃ (i : Nat) (out : List Bs) (A6 : Option Addr) (c6 : Nat), i ≤ r1.length ∧ out = (if m > 0 then (r1.take i).drop (r1.length - m.toNat) else []) ∧ s = (m, (A1, r1.length, c1), (A6, out.length, c6), (i : Int), ()) ∧ Row u w1.heap.size 9 1 A6 out.length c6 (bvs out))
    (fun s _ => (r1.length - s.2.2.2.1).toNat) ?_ _ _ ⟨Fr.refl _ _, 0, [], none, 0, by omega, by simp, rfl, Row.nil _ _ _ _⟩)⟩
  rintro s u C ⟨hf, i, out, A6, c6, hi, hout, rfl, hr6⟩ hC _
  have hol : out.length ≤ i := by
    rw [hout]
    split
    · rw [List.length_drop, List.length_take]; omega
    · simp
  refine vIf_mk (fun hlt => ?_) (fun hge => ?_)
  · have hlt2 : (i : Int) < (r1.length : Int) := of_decide_eq_true hlt
    have gi : r1[i]? = some (r1[i]'(by omega)) := List.getElem?_eq_getElem (by omega)
    generalize r1[i]'(by omega) = x at gi
    have ms : ((r1.length : Int) - IntKind.wrap .i64 ((i : Int) + 1)).toNat < ((r1.length : Int) - (i : Int)).toNat := by rw [ei i (by omega)]; omega
    have hs := hf.sl h1s (fun _ _ _ h => h)
    have k7 : ∀ t : Bool, t = decide (m > 0 ∧ (r1.length : Int) - i ≤ m) → jnC (F15.k7 (fun v w' => Fr (fun _ => False) w w' ∧ ∃ A' c' r', v = .slice A' (lastV r' m).length c' ∧ Sl w' 1 A' (lastV r' m).length (bvs (lastV r' m)) ∧ Asc r' ∧ r'.length ≤ n ∧ ∀ d, d ∈ r' ↔ d ∈ r) C) (m, (A1, r1.length, c1), (A6, out.length, c6), (i : Int), t, ()) u := by
      intro t ht
      refine jnC_mk (fun _ => vIf_mk (fun h1 => ?_) (fun h1 => ?_))
      · have h1 : t = true := h1
        rw [h1] at ht
        obtain ⟨h2, h3⟩ := of_decide_eq_true ht.symm
        refine bs_rd hs (by omega) gi (push_v hr6 hf.size (by show out.length ≤ _; omega) (fun A7 c7 u2 q1 q2 => jnC_mk (hC _ _ ⟨?_, i + 1, out ++ [x], A7, c7, by omega, ?_, ?_, ?_⟩ ms)))
        · exact hf.trans q2 (fun _ _ h => h) (fun k hk h' => by have := (hr6.blt h').1; omega)
        · rw [if_pos h2] at hout ⊢
          rw [(lastV_step gi h2).1 h3, hout]
        · rw [ei i (by omega), List.length_append]; rfl
        · rw [List.length_append]; exact q1
      · have h1 : t = false := h1
        rw [h1] at ht
        have h2 := of_decide_eq_false ht.symm
        refine jnC_mk (hC _ _ ⟨hf, i + 1, out, A6, c6, by omega, ?_, by rw [ei i (by omega)], hr6⟩ ms)
        by_cases h3 : m > 0
        · rw [if_pos h3] at hout ⊢
          rw [(lastV_step gi h3).2 (fun h4 => h2 ⟨h3, h4⟩), hout]
        · rw [if_neg h3] at hout ⊢
          exact hout
    refine vIf_mk (fun h2 => k7 _ ?_) (fun h2 => k7 _ ?_)
    · have h2 : m > 0 := of_decide_eq_true h2
      show decide (IntKind.wrap .i64 ((r1.length : Int) - (i : Int)) ≤ m) = _
      rw [i64_id (by omega) (by omega)]
      simp [h2]
    · have h2 : ¬ m > 0 := of_decide_eq_false h2
      symm
      exact decide_eq_false (fun h3 => h2 h3.1)
  · have hge2 : ¬ (i : Int) < (r1.length : Int) := of_decide_eq_false hge
    have hout : out = lastV r1 m := by
      rw [hout]; unfold lastV
      rw [List.take_of_length_le (by omega)]
    subst hout
    exact ⟨f1.trans1 hf, A6, c6, r1, rfl, hr6.sl, ha1, hl1, hm1⟩
theorem rows_law (A : Option Addr) (n c : Nat) (r : List Bs) (m : Int) (w : World) (h : Sl w 1 A n (bvs r)) (hw : Sm r) (hn : n ≤ 1048576) (hm : -9223372036854775808 ≤ m ∧ m ≤ 9223372036854775807) :
    Calls Tryd.prog 5 #[.slice A n c, .int .i64 m] w fun e w' => e = .returned (.bool true) ∧ Fr (fun _ => False) w w' := by
  refine (F5.of A n c m w (Q := fun v w' => v = .bool true ∧ Fr (fun _ => False) w w') ?_).mono (fun e w' ⟨v, he, hv, h⟩ => ⟨by rw [he, hv], h⟩)
  refine (row_calls A n c r w h hw (by omega)).mono ?_
  rintro e w1 ⟨f1, A1, c1, r1, rfl, h1, ha1, hl1, hm1⟩
  refine ⟨_, _, _, rfl, (rrow_calls A n c r w1 (f1.sl h (fun _ _ _ h => h)) hw (by omega)).mono ?_⟩
  rintro e w2 ⟨f2, A2, c2, r2, rfl, h2, ha2, hl2, hm2⟩
  have e12 : r2 = r1 := ha2.unique ha1 (fun d => (hm2 d).trans (hm1 d).symm)
  subst e12
  refine ⟨_, _, _, rfl, (texts_calls A1 _ c1 A2 _ c2 (r2.map ba) w2 (f2.sl h1.sl (fun _ _ _ h => h)) h2.sl (by omega)).mono ?_⟩
  rintro e w3 ⟨rfl, f3⟩
  have f3 := (f1.trans1 f2).trans1 f3
  refine ⟨_, rfl, vIf_t rfl ((last_calls A n c r m w3 (f3.sl h (fun _ _ _ h => h)) hw (by omega) hm).mono ?_)⟩
  rintro e w4 ⟨f4, A4, c4, r4, rfl, h4, ha4, hl4, hm4⟩
  have e14 : r4 = r2 := ha4.unique ha1 (fun d => (hm4 d).trans (hm1 d).symm)
  subst e14
  have f4' := f3.trans1 f4
  refine ⟨_, _, _, rfl, (rlast_calls A n c r m w4 (f4'.sl h (fun _ _ _ h => h)) hw (by omega) hm).mono ?_⟩
  rintro e w5 ⟨f5, A5, c5, r5, rfl, h5, ha5, hl5, hm5⟩
  have e15 : r5 = r4 := ha5.unique ha1 (fun d => (hm5 d).trans (hm1 d).symm)
  subst e15
  have hll : (lastV r5 m).length ≤ r5.length := by
    unfold lastV
    split
    · rw [List.length_drop]; omega
    · simp
  refine ⟨_, _, _, rfl, (texts_calls A4 _ c4 A5 _ c5 ((lastV r5 m).map ba) w5 (f5.sl h4 (fun _ _ _ h => h)) h5 (by omega)).mono ?_⟩
  rintro e w6 ⟨rfl, f6⟩
  have f6 := (f4'.trans1 f5).trans1 f6
  refine ⟨_, rfl, vIf_t rfl ((lives_calls w6).mono ?_)⟩
  rintro e w7 ⟨rfl, f7⟩
  exact ⟨_, rfl, rfl, f6.trans1 f7⟩
end Go.Proofs.YtegihbpdemjeaaaDoor
