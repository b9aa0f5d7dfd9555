/- chapter 11: Ids and the document's; lives -/
import Derived.Test.YtglojgicnchnpaaHF
import Derived.Test.YtglojgicnchnpaaLInt3
namespace Go.Proofs.Ytglojgicnchnpaa
open Go.GV Go.RowKit Go.Lib Go.Stb
set_option linter.unusedVariables false
set_option linter.unusedSimpArgs false
theorem sc_calls (B : Nat) (A : Option Addr) (n c : Nat) (r : List Int) (w : World) (h : Row w B 3 1 A n c (ivs r)) (hn : n ≤ 1099511627776) :
    Calls Try.prog 30 #[.slice A n c] w fun e w1 => e = .returned (.tuple #[]) ∧ Calls Try.prog 31 #[.slice A n c] w1 fun e2 w2 => Fr (fun k => blkOf A = some k) w w2 ∧ e2 = .returned (.slice A (norm r).length c) ∧ Row w2 B 3 1 A (norm r).length c (ivs (norm r)) := by
  have hrl := sl_n h.sl
  have fin : ∀ (u : World) (r1 : List Int), Fr (fun k => blkOf A = some k) w u → Row u B 3 1 A n c (ivs r1) → r1.Perm r → r1.Pairwise (· ≤ ·) →
      Calls Try.prog 31 #[.slice A n c] u fun e2 w2 => Fr (fun k => blkOf A = some k) w w2 ∧ e2 = .returned (.slice A (norm r).length c) ∧ Row w2 B 3 1 A (norm r).length c (ivs (norm r)) := by
    intro u r1 fu hr1 hp hs
    have hl1 := sl_n hr1.sl
    refine (compact_int B _ A c r1 n u hr1 hn).mono ?_
    rintro e w8 ⟨rfl, f8, h8⟩
    have heq : cpt r1 n = norm r := norm_eq (cpt_asc hs _ (by omega)) (fun y => by rw [cpt_mem, List.take_of_length_le (by omega)]; exact hp.mem_iff)
    rw [heq] at h8 ⊢
    exact ⟨fu.trans1 f8, rfl, h8⟩
  cases A with
  | none =>
    have hn0 : n = 0 ∧ c = 0 := by
      rcases h.at_ with ⟨_, h', h''⟩ | ⟨_, _, h', _⟩
      · exact ⟨h', h''⟩
      · cases h'
    obtain ⟨rfl, rfl⟩ := hn0
    have : r = [] := List.length_eq_zero_iff.1 hrl
    subst this
    refine (sort_nil 0 w).mono ?_
    rintro e w2 ⟨rfl, rfl⟩
    exact ⟨rfl, fin w2 [] (Fr.refl _ _) h (List.Perm.refl _) List.Pairwise.nil⟩
  | some a =>
    have ha : ∃ b, a = ⟨b, 0, none⟩ := by
      rcases h.at_ with ⟨h', _⟩ | ⟨b, _, h', _⟩
      · cases h'
      · exact ⟨b, Option.some.inj h'⟩
    obtain ⟨b, rfl⟩ := ha
    refine (sort_int B _ b c r n w h (by omega)).mono ?_
    rintro e w2 ⟨rfl, f2, r2, hr2, hp, hs⟩
    exact ⟨rfl, fin w2 r2 (f2.mono (fun k _ hk => by subst hk; rfl)) hr2 hp hs⟩
def idsU (F : Fo) : Nat → List Int
  | 0 => []
  | n + 1 => idsU F n ++ (behF F (n : Nat)).map (·.2)
def idsF (F : Fo) : List Int := norm (idsU F (F.P.length + 1))
theorem idsU_len {F : Fo} (hb : FoB F) : ∀ n, (idsU F n).length ≤ n * 349525
  | 0 => by simp [idsU]
  | n + 1 => by
    have ih := idsU_len hb n
    have h1 := behF_len F (n : Nat)
    have h2 : F.L.length + F.P.length ≤ 349525 := hb
    rw [idsU, List.length_append, List.length_map, Nat.add_mul]
    omega
theorem norm_len' (l : List Int) : (norm l).length ≤ l.length := norm_len l
theorem snd_step {l : List Nm} {j : Nat} {x : Nm} (h : l[j]? = some x) : (l.take (j + 1)).map (·.2) = (l.take j).map (·.2) ++ [x.2] := by rw [List.take_add_one, h]; simp
theorem push_int2 {w : World} {B : Nat} {A : Option Addr} {n c : Nat} {out : List Int} {x : Int} {K : Option Addr → Nat → Nat → World → Prop} (hr : Row w B 3 1 A n c (ivs out)) (hB : B ≤ w.heap.size) (hn : n ≤ 2199023255552)
    (hK : ∀ A' c' w', Row w' B 3 1 A' (n + 1) c' (ivs (out ++ [x])) → Fr (fun k => blkOf A = some k) w w' → (∀ k, blkOf A' = some k → blkOf A = some k ∨ w.heap.size ≤ k) → K A' (n + 1) c' w') : nw w ([Value.int .i64 x] ++ []) 3 fun b w' => app w' 1 8 [Value.int .i64 0] 3 A n c (.slice (some ⟨b, 0, none⟩) 1 1) K := by
  refine nw_mk ?_
  rw [List.append_nil]
  have f1 : Fr (fun _ => False) w (w.alloc (.cells [Value.int .i64 x].toArray 3)) := Fr.alloc _ _ _
  have r1 : Row (w.alloc (.cells [Value.int .i64 x].toArray 3)) 0 3 1 (some ⟨w.heap.size, 0, none⟩) 1 1 (ivs [x]) := Row.new (Nat.zero_le _) rfl
  have hs : (w.alloc (.cells [Value.int .i64 x].toArray 3)).heap.size = w.heap.size + 1 := alloc_size _ _
  generalize w.alloc (.cells [Value.int .i64 x].toArray 3) = w1 at f1 r1 hs ⊢
  refine app_row2 (f1.row hr (fun _ _ h => h)) r1.sl.src (ivs_one [x]) rfl (by omega) (by omega) (by omega) (fun A' c' w' hr' f' hb' => hK A' c' w' (by rw [ivs_app]; exact hr') ?_ (fun k hk => (hb' k hk).imp id (fun h => by omega)))
  exact f1.trans f' (fun _ _ h => h.elim) (fun _ _ h => h)
set_option maxHeartbeats 1000000 in
theorem ids_calls (cs : List Value) (F : Fo) (w : World) (h : FoAt w cs F) (hb : FoB F) :
    Calls Try.prog 18 #[ofL cs] w fun e w' => Fr (fun _ => False) w w' ∧ ∃ A' c', e = .returned (.slice A' (idsF F).length c') ∧ Row w' w.heap.size 3 1 A' (idsF F).length c' (ivs (idsF F)) := by
  refine (F18.of cs w (Q := fun v w' => Fr (fun _ => False) w w' ∧ ∃ A' c', v = .slice A' (idsF F).length c' ∧ Row w' w.heap.size 3 1 A' (idsF F).length c' (ivs (idsF F))) ?_).mono (fun e w' ⟨v, he, hf, A', c', hv, h⟩ => ⟨hf, A', c', by rw [he, hv], h⟩)
  have hb' : F.L.length + F.P.length ≤ 349525 := hb
  refine fo_new (fun b w1 f1 _ r1 => ?_)
  have h1 := h.fr0 f1
  have hcl := h.len
  obtain ⟨A, m, c, A', m', c', rfl, hL, hP, hPc⟩ := h
  have hPl := hP.2
  refine ⟨A', m', c', r1.cell rfl, ?_⟩
  have em : IntKind.wrap .i64 (((m' : Nat) : Int) + 1) = ((m' + 1 : Nat) : Int) := ei m' (by omega)
  dsimp only
  rw [em]
  have hs1 := f1.size
  refine jnC_mk (loop_rule (fun s u => Fr (fun _ => False) w1 u ∧ ∃ (i : Nat) (A2 : Option Addr) (c2 : Nat), i ≤ m' + 1 ∧ s = ((b, 0), (A2, (idsU F i).length, c2), ((m' + 1 : Nat) : Int), (i : Int), ()) ∧ Row u w1.heap.size 3 1 A2 (idsU F i).length c2 (ivs (idsU F i)))
    (fun s _ => (m' + 1 - s.2.2.2.1).toNat) ?_ _ _ ⟨Fr.refl _ _, 0, none, 0, by omega, rfl, Row.nil _ _ _ _⟩)
  rintro s u C3 ⟨hf, i, A2, c2, hi, rfl, h2⟩ hC3 _
  have hlen := idsU_len hb i
  have hi2 : i * 349525 ≤ 349526 * 349525 := Nat.mul_le_mul_right _ (by omega)
  refine vIf_mk (fun hlt => ?_) (fun hge => ?_)
  · have hlt2 : (i : Int) < ((m' + 1 : Nat) : Int) := of_decide_eq_true hlt
    refine ⟨[.slice A m c, .slice A' m' c'], rfl, rec_rd (r1.fr hf (fun h => h)), (beh_calls _ F (i : Int) u (h1.fr0 hf) hb).mono ?_⟩
    rintro r u2 ⟨f2, A3, c3, rfl, h3⟩
    have hbl := behF_len F (i : Nat)
    have hU : idsU F (i + 1) = idsU F i ++ (behF F (i : Nat)).map (·.2) := rfl
    generalize behF F ((i : Nat) : Int) = l at h3 hbl hU ⊢
    have h2' := f2.row h2 (fun _ _ h => h)
    refine ⟨_, _, _, rfl, jnC_mk (loop_rule (fun s v => Fr (fun _ => False) w1 v ∧ NSl v A3 l.length l ∧ ∃ (j : Nat) (A4 : Option Addr) (c4 : Nat), j ≤ l.length ∧ s = ((b, 0), (A4, (idsU F i).length + j, c4), ((m' + 1 : Nat) : Int), (i : Int), (A3, l.length, c3), ((l.length : Nat) : Int), (j : Int), ()) ∧ Row v w1.heap.size 3 1 A4 ((idsU F i).length + j) c4 (ivs (idsU F i ++ (l.take j).map (·.2))) ∧ (∀ k, blkOf A4 = some k → blkOf A3 ≠ some k))
      (fun s _ => (l.length - s.2.2.2.2.2.2.1).toNat) ?_ _ _ ⟨hf.trans1 f2, h3.sl, 0, A2, c2, by omega, rfl, by simpa using h2', fun k hk h => by have := (h2.blt hk).2; have := (h3.1.blt h).1; omega⟩)⟩
    rintro s v C6 ⟨fv, hl, j, A4, c4, hj, rfl, h4, hne⟩ hC6 _
    refine vIf_mk (fun hlt => ?_) (fun hge => ?_)
    · have hlt3 : (j : Int) < (l.length : Int) := of_decide_eq_true hlt
      have gj : l[j]? = some (l[j]'(by omega)) := List.getElem?_eq_getElem (by omega)
      generalize l[j]'(by omega) = x at gj
      have hst := snd_step gj
      refine n_rd hl gj rfl (nw_mk (gd_mk rfl ?_))
      have q1 : Fr (fun _ => False) v (v.alloc (.cells [Value.string (⟨#[]⟩ : ByteArray), Value.int .i64 0].toArray 48)) := Fr.alloc _ _ _
      have s1 := RecAt.new v [Value.string (⟨#[]⟩ : ByteArray), Value.int .i64 0] 48
      have hb15 : ∀ k, k < v.heap.size → k ≠ v.heap.size := fun k hk => by omega
      have hA4b : ∀ k, blkOf A4 = some k → k ≠ v.heap.size := fun k hk => hb15 k (h4.blt hk).2
      have hA3b : l.length ≠ 0 → ∀ k, blkOf A3 = some k → k ≠ v.heap.size := fun h0 k hk => hb15 k (hl.1.blt (by decide) h0 hk)
      generalize hbb : v.heap.size = b15 at s1 hA4b hA3b ⊢
      generalize v.alloc (.cells [Value.string (⟨#[]⟩ : ByteArray), Value.int .i64 0].toArray 48) = v1 at q1 s1 ⊢
      refine fo_st s1 (by rfl) (encN_o.one x) (fun v2 q2 s2 => ⟨x.2, s2.cell rfl, ?_⟩)
      have hl1 := hl.fr0 q1
      have h41 := q1.row h4 (fun _ _ h => h)
      have hl2 : NSl v2 A3 l.length l := ⟨q2.sl hl1.1 hA3b, hl1.2⟩
      have h42 := q2.row h41 hA4b
      have fv2 : Fr (fun _ => False) w1 v2 := (fv.trans1 q1).trans q2 (fun _ _ h => h) (fun k hk h => by have := fv.size; omega)
      refine push_int2 h42 (by have := fv2.size; omega) (by dsimp only; omega) (fun A5 c5 v3 h5 q3 hA5 => jnC_mk (hC6 _ _ ⟨?_, ?_, j + 1, A5, c5, by omega, by rw [ei j (by omega)]; rfl, ?_, ?_⟩ ?_))
      · exact fr_own fv2 (fun k hk => (h42.blt hk).1) (Nat.le_refl _) q3
      · exact ⟨q3.sl hl2.1 (fun _ k hk h => hne k h hk), hl2.2⟩
      · rw [hst, ← List.append_assoc]; exact h5
      · intro k hk h
        rcases hA5 k hk with h' | h'
        · exact hne k h' h
        · have := hl2.1.blt (by decide) (by omega) h
          omega
      · show ((l.length : Int) - IntKind.wrap .i64 ((j : Int) + 1)).toNat < ((l.length : Int) - (j : Int)).toNat
        rw [ei j (by omega)]; omega
    · have hge3 : ¬ (j : Int) < (l.length : Int) := of_decide_eq_false hge
      have hjl : j = l.length := by omega
      subst hjl
      rw [List.take_length, ← hU] at h4
      have hUl : (idsU F i).length + l.length = (idsU F (i + 1)).length := by rw [hU]; simp
      rw [hUl] at h4
      refine jnC_mk (hC3 _ _ ⟨fv, i + 1, A4, c4, by omega, ?_, h4⟩ ?_)
      · dsimp only; rw [hUl, ei i (by omega)]
      · show ((m' : Int) + 1 - IntKind.wrap .i64 ((i : Int) + 1)).toNat < ((m' : Int) + 1 - (i : Int)).toNat
        rw [ei i (by omega)]; omega
  · have hge2 : ¬ (i : Int) < ((m' + 1 : Nat) : Int) := of_decide_eq_false hge
    have him : i = F.P.length + 1 := by omega
    subst him
    refine (sc_calls w1.heap.size A2 _ c2 _ u h2 (by omega)).mono ?_
    rintro r u2 ⟨rfl, h⟩
    refine ⟨rfl, h.mono ?_⟩
    rintro r u3 ⟨f3, rfl, h3⟩
    exact ⟨_, _, _, rfl, f1.trans1 (fr_own hf (fun k hk => (h2.blt hk).1) (Nat.le_refl _) f3), A2, c2, rfl, row_low hs1 h3⟩
set_option maxHeartbeats 1000000 in
theorem rids_calls (cs : List Value) (F : Fo) (w : World) (h : FoAt w cs F) (hb : FoB F) :
    Calls Try.prog 19 #[ofL cs] w fun e w' => Fr (fun _ => False) w w' ∧ ∃ A' c', e = .returned (.slice A' (idsF F).length c') ∧ Row w' w.heap.size 3 1 A' (idsF F).length c' (ivs (idsF F)) := by
  refine (F19.of cs w (Q := fun v w' => Fr (fun _ => False) w w' ∧ ∃ A' c', v = .slice A' (idsF F).length c' ∧ Row w' w.heap.size 3 1 A' (idsF F).length c' (ivs (idsF F))) ?_).mono (fun e w' ⟨v, he, hf, A', c', hv, h⟩ => ⟨hf, A', c', by rw [he, hv], h⟩)
  have hb' : F.L.length + F.P.length ≤ 349525 := hb
  refine fo_new (fun b w1 f1 _ r1 => ?_)
  have h1 := h.fr0 f1
  have hcl := h.len
  obtain ⟨A, m, c, A', m', c', rfl, hL, hP, hPc⟩ := h
  have hPl := hP.2
  have hs1 := f1.size
  refine jnC_mk (loop_rule (fun s u => Fr (fun _ => False) w1 u ∧ ∃ (i : Nat) (A2 : Option Addr) (c2 : Nat), i ≤ m' + 1 ∧ s = ((b, 0), (A2, (norm (idsU F i)).length, c2), (i : Int), ()) ∧ Row u w1.heap.size 3 1 A2 (norm (idsU F i)).length c2 (ivs (norm (idsU F i))))
    (fun s _ => (m' + 1 - s.2.2.1).toNat) ?_ _ _ ⟨Fr.refl _ _, 0, none, 0, by omega, rfl, Row.nil _ _ _ _⟩)
  rintro s u C3 ⟨hf, i, A2, c2, hi, rfl, h2⟩ hC3 _
  have hlen := idsU_len hb i
  have hi2 : i * 349525 ≤ 349526 * 349525 := Nat.mul_le_mul_right _ (by omega)
  refine ⟨A', m', c', (r1.fr hf (fun h => h)).cell rfl, vIf_mk (fun hlt => ?_) (fun hge => ?_)⟩
  · have hlt2 : (i : Int) ≤ (m' : Int) := of_decide_eq_true hlt
    refine ⟨[.slice A m c, .slice A' m' c'], rfl, rec_rd (r1.fr hf (fun h => h)), (rbeh_calls _ F (i : Int) u (h1.fr0 hf) hb).mono ?_⟩
    rintro r u2 ⟨f2, A3, c3, rfl, h3⟩
    have hbl := behF_len F (i : Nat)
    have hU : idsU F (i + 1) = idsU F i ++ (behF F (i : Nat)).map (·.2) := rfl
    generalize behF F ((i : Nat) : Int) = l at h3 hbl hU ⊢
    have h2' := f2.row h2 (fun _ _ h => h)
    refine ⟨_, _, _, rfl, jnC_mk (loop_rule (fun s v => Fr (fun _ => False) w1 v ∧ NSl v A3 l.length l ∧ ∃ (j : Nat) (A4 : Option Addr) (c4 : Nat), j ≤ l.length ∧ s = ((b, 0), (A4, (norm (idsU F i ++ (l.take j).map (·.2))).length, c4), (i : Int), (A3, l.length, c3), (j : Int), ()) ∧ Row v w1.heap.size 3 1 A4 (norm (idsU F i ++ (l.take j).map (·.2))).length c4 (ivs (norm (idsU F i ++ (l.take j).map (·.2)))))
      (fun s _ => (l.length - s.2.2.2.2.1).toNat) ?_ _ _ ⟨hf.trans1 f2, h3.sl, 0, A2, c2, by omega, by simp, by simpa using h2'⟩)⟩
    rintro s v C6 ⟨fv, hl, j, A4, c4, hj, rfl, h4⟩ hC6 _
    refine vIf_mk (fun hlt => ?_) (fun hge => ?_)
    · have hlt3 : (j : Int) < (l.length : Int) := of_decide_eq_true hlt
      have gj : l[j]? = some (l[j]'(by omega)) := List.getElem?_eq_getElem (by omega)
      generalize l[j]'(by omega) = x at gj
      have hst := snd_step gj
      have hnl := norm_len (idsU F i ++ (l.take j).map (·.2))
      rw [List.length_append, List.length_map, List.length_take] at hnl
      refine n_rdI hl gj rfl ((add_calls A4 _ c4 _ x.2 v h4.sl (by omega)).mono ?_)
      rintro r v2 ⟨q2, A5, c5, rfl, h5⟩
      have hadd : addI (norm (idsU F i ++ (l.take j).map (·.2))) x.2 = norm (idsU F i ++ (l.take (j + 1)).map (·.2)) := by rw [hst, ← List.append_assoc, norm_snoc]
      rw [hadd] at h5 ⊢
      refine ⟨_, _, _, rfl, jnC_mk (hC6 _ _ ⟨fv.trans1 q2, hl.fr0 q2, j + 1, A5, c5, by omega, by rw [ei j (by omega)], row_low fv.size h5⟩ ?_)⟩
      show ((l.length : Int) - IntKind.wrap .i64 ((j : Int) + 1)).toNat < ((l.length : Int) - (j : Int)).toNat
      rw [ei j (by omega)]; omega
    · have hge3 : ¬ (j : Int) < (l.length : Int) := of_decide_eq_false hge
      have hjl : j = l.length := by omega
      subst hjl
      rw [List.take_length, ← hU] at h4 ⊢
      refine jnC_mk (hC3 _ _ ⟨fv, i + 1, A4, c4, by omega, by rw [ei i (by omega)], h4⟩ ?_)
      show ((m' : Int) + 1 - IntKind.wrap .i64 ((i : Int) + 1)).toNat < ((m' : Int) + 1 - (i : Int)).toNat
      rw [ei i (by omega)]; omega
  · have hge2 : ¬ (i : Int) ≤ (m' : Int) := of_decide_eq_false hge
    have him : i = F.P.length + 1 := by omega
    subst him
    exact ⟨f1.trans1 hf, A2, c2, rfl, row_low hs1 h2⟩
/-! ### lives -/
def nmA : ByteArray := ⟨#[97]⟩
def chA : Ch := ⟨1, nmA, ⟨#[]⟩, 7⟩
theorem diskA : DiskP nmA := by
  refine ⟨fun i hi => ?_, by decide, by decide⟩
  have : i = 0 := by have : nmA.size = 1 := rfl; omega
  subst this
  decide
theorem wrongA : wrongF ⟨[], []⟩ chA = 0 := by
  unfold wrongF
  rw [if_pos (show chA.k = 1 from rfl), if_neg (show ¬¬ DiskP chA.nm from not_not_intro diskA)]
  rfl
theorem doA : doF ⟨[], []⟩ chA = ⟨[], [chA]⟩ := if_pos wrongA
theorem nowA : nowF ⟨[], [chA]⟩ = [(nmA, 7)] := rfl
theorem behA : behF ⟨[], [chA]⟩ 0 = [] := rfl
theorem pt0 {A : Option Addr} {n c : Nat} {r : List Value} {K : Option Addr → Nat → Nat → Prop} (h : K A n c) : ptSl (nthV (.slice A n c :: r) 0) K := h
theorem lives_calls (w : World) : Calls Try.prog 14 #[] w fun e w' => e = .returned (.bool true) ∧ Fr (fun _ => False) w w' := by
  refine (F14.of w (Q := fun v w' => v = .bool true ∧ Fr (fun _ => False) w w') ?_).mono (fun e w' ⟨v, he, hv, h⟩ => ⟨by rw [he, hv], h⟩)
  have hF0 : FoAt w [.slice none 0 0, .slice none 0 0] ⟨[], []⟩ := ⟨none, 0, 0, none, 0, 0, rfl, ⟨Sl.nil _ _ _, rfl⟩, ⟨Sl.nil _ _ _, rfl⟩, Nat.le_refl _⟩
  refine (do_calls [.slice none 0 0, .slice none 0 0] ⟨[], []⟩ chA w hF0 (by show 0 + 0 ≤ 349525; omega) ⟨by decide, by decide⟩).mono ?_
  rintro r w1 ⟨f1, cs, rfl, h1⟩
  rw [doA] at h1
  rw [wrongA]
  refine ⟨_, _, rfl, fo_new (fun b w2 f2 hb2 r2 => gd_mk (by rw [h1.len]; rfl) (fo_st r2 h1.len h1.one (fun w3 f3 r3 => ⟨cs, h1.len, rec_rd r3, ?_⟩)))⟩
  have f13 : Fr (fun _ => False) w1 w3 := f2.trans f3 (fun _ _ h => h) (fun k hk h => by omega)
  have h3 := h1.fr0 f13
  have f := f1.trans1 f13
  refine (find_calls cs _ nmA w3 h3 (by show 0 + 1 ≤ 349525; omega)).mono ?_
  rintro r w4 ⟨rfl, f4⟩
  have h4 := h3.fr0 f4
  have r4 := r3.fr f4 (fun h => h)
  rw [nowA]
  refine ⟨_, _, rfl, vIf_t rfl (vIf_t rfl (vIf_t rfl ⟨cs, h1.len, rec_rd r4, (crash_calls cs _ 0 w4 h4 (by show 0 + 1 ≤ 349525; omega)).mono ?_⟩))⟩
  rintro r w5 ⟨f5, cs5, rfl, h5⟩
  rw [behA] at h5
  have h45 := h4.fr0 f5
  obtain ⟨A5, n5, c5, A5', n5', c5', rfl, hL5, hP5, _⟩ := h5
  have hn5 : n5 = 0 := hL5.2.symm
  subst hn5
  refine ⟨_, rfl, gd_mk rfl (pt0 (vIf_t rfl ⟨cs, h1.len, rec_rd (r4.fr f5 (fun h => h)), (sync_calls cs _ w5 h45 (by show 0 + 1 ≤ 349525; omega)).mono ?_⟩))⟩
  rintro r w6 ⟨f6, cs6, rfl, h6⟩
  rw [nowA] at h6
  obtain ⟨A6, n6, c6, A6', n6', c6', rfl, hL6, hP6, _⟩ := h6
  have hn6 : n6 = 1 := hL6.2.symm
  subst hn6
  exact ⟨_, rfl, gd_mk rfl (pt0 ⟨rfl, ((f.trans1 f4).trans1 f5).trans1 f6⟩)⟩
end Go.Proofs.Ytglojgicnchnpaa
