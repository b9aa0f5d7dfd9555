/- chapter 11: lasts, set, cut, step, behind, Now, Find -/
import Derived.Test.YtglojgicnchnpaaHA
namespace Go.Proofs.Ytglojgicnchnpaa
open Go.GV Go.RowKit Go.Lib Go.Stb
set_option linter.unusedVariables false
set_option linter.unusedSimpArgs false
theorem fr_own {S : Nat → Prop} {w u v : World} {A : Option Addr} {b : Nat} (f : Fr (fun _ => False) w u) (hb : ∀ k, blkOf A = some k → b ≤ k) (hw : w.heap.size ≤ b) (g : Fr (fun k => blkOf A = some k) u v) : Fr S w v :=
  f.trans g (fun _ _ h => h.elim) (fun k hk h => by have := hb k h; omega)
theorem lasts_calls (A : Option Addr) (n c : Nat) (L : List Nm) (p : Value) (w : World) (h : NSl w A n L) (hn : n ≤ 1073741824) :
    Calls Try.prog 35 #[ofL [.slice A n c, p]] w fun e w' => Fr (fun _ => False) w w' ∧ ∃ A' c', e = .returned (.slice A' (lastN L).length c') ∧ NRow w' w.heap.size A' (lastN L).length c' (lastN L) := by
  refine (F35.of _ w (Q := fun v w' => Fr (fun _ => False) w w' ∧ ∃ A' c', v = .slice A' (lastN L).length c' ∧ NRow w' w.heap.size A' (lastN L).length c' (lastN L)) ?_).mono (fun e w' ⟨v, he, hf, A', c', hv, h⟩ => ⟨hf, A', c', by rw [he, hv], h⟩)
  refine nw_mk ?_
  have f1 : Fr (fun _ => False) w (w.alloc (.cells [Value.slice A n c, p].toArray 25)) := Fr.alloc _ _ _
  have r1 := RecAt.new w [Value.slice A n c, p] 25
  generalize w.alloc (.cells [Value.slice A n c, p].toArray 25) = w1 at f1 r1 ⊢
  have hsz := f1.size
  refine ⟨A, n, c, r1.cell rfl, (ClnNm.clone_calls A n c _ w1 (h.fr0 f1).1 (encN_o.fo L) hn).mono ?_⟩
  rintro r w2 ⟨f2, A2, c2, rfl, h2⟩
  refine ⟨_, _, _, rfl, (StbNm.sortStable_calls lsrt w1.heap.size A2 n c2 L w2 h2 h.2 (by omega)).mono ?_⟩
  rintro r w3 ⟨rfl, f3, h3⟩
  refine ⟨rfl, (compactN_calls w1.heap.size A2 c2 (stab cmpM L) n w3 ⟨h3, by rw [stab_len]; exact h.2⟩ (by omega)).mono ?_⟩
  have hc : cptN (stab cmpM L) n = lastN L := by rw [← h.2]; exact last_eq L
  rw [hc]
  rintro r w4 ⟨rfl, f4, h4⟩
  have hA2 : ∀ k, blkOf A2 = some k → w1.heap.size ≤ k := fun k hk => (h2.blt hk).1
  refine ⟨_, _, _, rfl, fr_own (f1.trans1 f2) hA2 (by omega) (f3.trans1 f4), A2, c2, rfl, ⟨?_, h4.2⟩⟩
  exact row_low hsz h4.1
theorem set_calls (B : Nat) (A : Option Addr) (n c : Nat) (l : List Nm) (s : ByteArray) (v : Int) (w : World) (h : NRow w B A n c l) (ha : AscN l) (hB : B ≤ w.heap.size) (hn : n ≤ 1073741824) :
    Calls Try.prog 45 #[.slice A n c, .string s, .int .i64 v] w fun e w' => Fr (fun k => blkOf A = some k) w w' ∧ ∃ A' c', e = .returned (.slice A' (putN (s, v) l).length c') ∧ NRow w' B A' (putN (s, v) l).length c' (putN (s, v) l) := by
  refine (F45.of A n c s v w (Q := fun v' w' => Fr (fun k => blkOf A = some k) w w' ∧ ∃ A' c', v' = .slice A' (putN (s, v) l).length c' ∧ NRow w' B A' (putN (s, v) l).length c' (putN (s, v) l)) ?_).mono (fun e w' ⟨v, he, hf, A', c', hv, h⟩ => ⟨hf, A', c', by rw [he, hv], h⟩)
  refine (bsN_calls A n c l s w h.sl ha (by omega)).mono ?_
  rintro r w2 ⟨f2, i, rfl, hp⟩
  have h2 := h.fr0 f2
  have hin := hp.1
  have hl := h.2
  refine ⟨_, _, rfl, vIf_mk (fun hi => ?_) (fun hi => ?_)⟩
  · obtain ⟨x, hx, hs⟩ := isN_at hi
    have hil := (List.getElem?_eq_some_iff.1 hx).1
    have hpt := row_putG (o' := i * 2 + 1) (us := [Value.int .i64 v]) (K := fun w' => Fr (fun k => blkOf A = some k) w w' ∧ ∃ A' c', Value.slice A n c = .slice A' (putN (s, v) l).length c' ∧ NRow w' B A' (putN (s, v) l).length c' (putN (s, v) l)) h2.1 (by omega) (by simp; omega) (by simp; rfl) (fun w6 hr6 f6 => ?_)
    · rw [dr_iff] at hpt
      obtain ⟨b, o, hA, hpt⟩ := hpt
      rw [hA]
      refine dr_mk (gd_mk (decide_eq_true (by omega)) (gd_mk (decide_eq_true (by omega)) ?_))
      rw [Int.toNat_natCast, ← hA]
      exact hpt
    · rw [put_in hp hx hs, List.length_set, hl]
      refine ⟨(f2.mono (fun _ _ h => h.elim)).trans1 f6, A, c, rfl, ?_, by rw [List.length_set, hl]⟩
      have e : splice (flt encN l) (i * 2 + 1) [Value.int .i64 v] = flt encN (l.set i (s, v)) := by
        rw [← flt_set (enc := encN) (sz := 2) (fun _ _ => rfl) (by omega) rfl]
        apply List.ext_getElem?
        intro j
        have hfl := encN_o.fl l
        rw [splice_get (by simp; omega), splice_get (by show i * 2 + 2 ≤ _; omega)]
        have g0 : (flt encN l)[i * 2]? = some (.string s) := by
          have := flt_get (enc := encN) (sz := 2) (fun _ _ => rfl) hx 0 (by omega)
          rw [Nat.add_zero] at this
          rw [this, ← hs]; rfl
        by_cases h1 : j < i * 2
        · rw [if_pos (by omega), if_pos h1]
        · by_cases h2 : j = i * 2
          · subst h2
            rw [if_pos (by omega), if_neg (by omega), if_pos (by show i * 2 < i * 2 + 2; omega), g0, Nat.sub_self]; rfl
          · rw [if_neg (by omega), if_neg h1]
            by_cases h3 : j = i * 2 + 1
            · subst h3
              rw [if_pos (by simp), if_pos (by show i * 2 + 1 < i * 2 + 2; omega), Nat.sub_self, show i * 2 + 1 - i * 2 = 1 by omega]; rfl
            · rw [if_neg (by simp; omega), if_neg (by show ¬ j < i * 2 + 2; omega)]
      rw [← e]
      exact hr6
  · refine gd_mk rfl (nw_mk ?_)
    have f3 : Fr (fun _ => False) w2 (w2.alloc (.cells (encN (s, v)).toArray 48)) := Fr.alloc _ _ _
    have r3 := RecAt.new w2 (encN (s, v)) 48
    show Calls _ _ _ (w2.alloc (.cells (encN (s, v)).toArray 48)) _
    have hA2 : blkOf A ≠ some w2.heap.size := fun e => by have := (h2.1.blt e).2; omega
    generalize hb3 : w2.heap.size = b3 at r3 hA2 ⊢
    generalize w2.alloc (.cells (encN (s, v)).toArray 48) = w3 at f3 r3 ⊢
    have h3 := h2.fr0 f3
    refine (InsNm.insert_calls encN_o B A n c i l (s, v) b3 w3 h3.1 hl (by omega) r3 hA2 (by have := f2.size; have := f3.size; omega) hn).mono ?_
    rintro r w4 ⟨A4, c4, rfl, f4, h4⟩
    have hi : isN s i l = false := hi
    rw [← put_out hp ha hi] at h4
    have hlen : (putN (s, v) l).length = n + 1 := by rw [put_out hp ha hi]; simp; omega
    rw [hlen]
    exact ⟨_, _, _, rfl, ((f2.trans1 f3).mono (fun _ _ h => h.elim)).trans1 f4, A4, c4, rfl, h4, hlen⟩
theorem cut_calls (B : Nat) (A : Option Addr) (n c : Nat) (l : List Nm) (s : ByteArray) (w : World) (h : NRow w B A n c l) (ha : AscN l) (hn : n ≤ 1073741824) :
    Calls Try.prog 46 #[.slice A n c, .string s] w fun e w' => Fr (fun k => blkOf A = some k) w w' ∧ e = .returned (.tuple #[.slice A (woN s l).length c, .int .i64 ((findN s l).getD 0), .bool (findN s l).isSome]) ∧ NRow w' B A (woN s l).length c (woN s l) ∧ (findN s l = none → Fr (fun _ => False) w w') := by
  refine (F46.of A n c s w (Q := fun v' w' => Fr (fun k => blkOf A = some k) w w' ∧ v' = .tuple #[.slice A (woN s l).length c, .int .i64 ((findN s l).getD 0), .bool (findN s l).isSome] ∧ NRow w' B A (woN s l).length c (woN s l) ∧ (findN s l = none → Fr (fun _ => False) w w')) ?_).mono (fun e w' ⟨v, he, hf, hv, h⟩ => ⟨hf, by rw [he, hv], h⟩)
  refine (bsN_calls A n c l s w h.sl ha (by omega)).mono ?_
  rintro r w2 ⟨f2, i, rfl, hp⟩
  have h2 := h.fr0 f2
  have hin := hp.1
  have hl := h.2
  refine ⟨_, _, rfl, vIf_mk (fun hi => ?_) (fun hi => ?_)⟩
  · have hi : isN s i l = false := by simpa using hi
    obtain ⟨e1, e2⟩ := wo_out hp ha hi
    rw [e1, e2, hl]
    exact ⟨f2.mono (fun _ _ h => h.elim), rfl, h2, fun _ => f2⟩
  · have hi : isN s i l = true := by simpa using hi
    obtain ⟨x, hx, hs⟩ := isN_at hi
    have hil := (List.getElem?_eq_some_iff.1 hx).1
    refine n_rdI h2.sl hx rfl ((InsNm.delete_calls encN_o B A n c i l w2 h2.1 hl (by omega) hn (ei i (by omega))).mono ?_)
    rintro r w3 ⟨rfl, f3, h3⟩
    have e1 := wo_in hp ha hx hs
    have e2 := find_in hp hx hs
    rw [← e1] at h3
    have hlen : (woN s l).length = n - 1 := by rw [e1]; simp; omega
    rw [hlen, e2]
    exact ⟨_, _, _, rfl, (f2.mono (fun _ _ h => h.elim)).trans1 f3, rfl, ⟨h3, hlen⟩, fun h => by cases h⟩
theorem step_calls (B : Nat) (A : Option Addr) (n c : Nat) (l : List Nm) (x : Ch) (w : World) (h : NRow w B A n c l) (ha : AscN l) (hB : B ≤ w.heap.size) (hn : n ≤ 1073741823) :
    Calls Try.prog 36 #[.slice A n c, ofL (encC x)] w fun e w' => Fr (fun k => blkOf A = some k) w w' ∧ ∃ A' c', e = .returned (.slice A' (stepN l x).length c') ∧ NRow w' B A' (stepN l x).length c' (stepN l x) := by
  refine (F36.of A n c _ w (Q := fun v' w' => Fr (fun k => blkOf A = some k) w w' ∧ ∃ A' c', v' = .slice A' (stepN l x).length c' ∧ NRow w' B A' (stepN l x).length c' (stepN l x)) ?_).mono (fun e w' ⟨v, he, hf, A', c', hv, h⟩ => ⟨hf, A', c', by rw [he, hv], h⟩)
  refine nw_mk ?_
  have f1 : Fr (fun _ => False) w (w.alloc (.cells (encC x).toArray 27)) := Fr.alloc _ _ _
  have r1 := RecAt.new w (encC x) 27
  have hb1 : ∀ k, blkOf A = some k → k ≠ w.heap.size := fun k hk e => by have := (h.1.blt hk).2; omega
  generalize w.heap.size = b1 at r1 hb1 ⊢
  generalize w.alloc (.cells (encC x).toArray 27) = w1 at f1 r1 ⊢
  have f1' : Fr (fun k => blkOf A = some k) w w1 := f1.mono (fun _ _ h => h.elim)
  have h1 := h.fr0 f1
  have hB1 : B ≤ w1.heap.size := by have := f1.size; omega
  have hl := h.2
  refine ⟨x.k, r1.cell rfl, vIf_mk (fun hk => ?_) (fun hk => vIf_mk (fun hk3 => ?_) (fun hk3 => vIf_mk (fun hk2 => ?_) (fun hk2 => ?_)))⟩
  · have hk : x.k = 1 := by simpa using hk
    have e : stepN l x = putN (x.nm, x.id) l := if_pos hk
    rw [e]
    refine ⟨x.nm, r1.cell rfl, x.id, r1.cell rfl, (set_calls B A n c l x.nm x.id w1 h1 ha hB1 (by omega)).mono ?_⟩
    rintro r w2 ⟨f2, A2, c2, rfl, h2⟩
    exact ⟨_, _, _, rfl, f1'.trans1 f2, A2, c2, rfl, h2⟩
  · have hk : ¬ x.k = 1 := by simpa using hk
    have hk3 : x.k = 3 := by simpa using hk3
    have e : stepN l x = woN x.nm l := by unfold stepN; rw [if_neg hk, if_neg (by omega), if_pos hk3]
    rw [e]
    refine ⟨x.nm, r1.cell rfl, (cut_calls B A n c l x.nm w1 h1 ha (by omega)).mono ?_⟩
    rintro r w2 ⟨f2, rfl, h2, _⟩
    exact ⟨_, _, _, _, _, rfl, f1'.trans1 f2, A, c, rfl, h2⟩
  · have hk : ¬ x.k = 1 := by simpa using hk
    have hk2 : x.k = 2 := by simpa using hk2
    refine ⟨x.nm, r1.cell rfl, (cut_calls B A n c l x.nm w1 h1 ha (by omega)).mono ?_⟩
    rintro r w2 ⟨f2, rfl, h2, hno⟩
    refine ⟨_, _, _, _, _, rfl, vIf_mk (fun hi => ?_) (fun hi => ?_)⟩
    · cases hf : findN x.nm l with
      | none => rw [hf] at hi; cases hi
      | some id =>
        have e : stepN l x = putN (x.to, id) (woN x.nm l) := by unfold stepN; rw [if_neg hk, if_pos hk2, hf]
        rw [e]
        have hwl := woN_len x.nm l
        refine ⟨x.to, (r1.fr f2 (fun e => hb1 _ e rfl)).cell rfl, (set_calls B A _ c _ x.to id w2 h2 (woN_asc _ ha) (by have := f2.size; omega) (by omega)).mono ?_⟩
        rintro r w3 ⟨f3, A3, c3, rfl, h3⟩
        exact ⟨_, _, _, rfl, (f1'.trans1 f2).trans1 f3, A3, c3, rfl, h3⟩
    · cases hf : findN x.nm l with
      | some id => rw [hf] at hi; cases hi
      | none =>
        have e : stepN l x = l := by unfold stepN; rw [if_neg hk, if_pos hk2, hf]
        rw [e, hl]
        exact ⟨f1'.trans1 f2, A, c, rfl, h1.fr0 (hno hf)⟩
  · have hk : ¬ x.k = 1 := by simpa using hk
    have hk3 : ¬ x.k = 3 := by simpa using hk3
    have hk2 : ¬ x.k = 2 := by simpa using hk2
    have e : stepN l x = l := by unfold stepN; rw [if_neg hk, if_neg hk2, if_neg hk3]
    rw [e, hl]
    exact ⟨f1', A, c, rfl, h1⟩
/-! ### folders -/
structure Fo where
  L : List Nm
  P : List Ch
def CSl (w : World) (A : Option Addr) (n : Nat) (l : List Ch) : Prop := Sl w 4 A n (flt encC l) ∧ l.length = n
theorem CSl.fr0 {w w' : World} {A : Option Addr} {n : Nat} {l : List Ch} (h : CSl w A n l) (f : Fr (fun _ => False) w w') : CSl w' A n l := ⟨f.sl h.1 (fun _ _ _ h => h), h.2⟩
theorem c_rd {w : World} {A : Option Addr} {n : Nat} {l : List Ch} (h : CSl w A n l) {i : Nat} {x : Ch} (hi : l[i]? = some x) {ii : Int} (hii : ii = (i : Int)) {K : List Value → Prop} (hK : K (encC x)) :
    dr A fun b o => gd (decide (0 ≤ ii)) (gd (decide (ii < ((n : Nat) : Int))) (ldA 4 w b (o + ii.toNat * 4) K)) :=
  el_rd h.1 (fun x _ => rfl) hi hii h.2 (fun b o hA hc => ⟨encC x, rfl, hc, hK⟩)
def FoAt (w : World) (cs : List Value) (F : Fo) : Prop := ∃ A n c A' n' c', cs = [.slice A n c, .slice A' n' c'] ∧ NSl w A n F.L ∧ CSl w A' n' F.P ∧ n' ≤ c'
theorem FoAt.fr0 {w w' : World} {cs : List Value} {F : Fo} (h : FoAt w cs F) (f : Fr (fun _ => False) w w') : FoAt w' cs F := by
  obtain ⟨A, n, c, A', n', c', e, h1, h2, h3⟩ := h
  exact ⟨A, n, c, A', n', c', e, h1.fr0 f, h2.fr0 f, h3⟩
theorem FoAt.len {w : World} {cs : List Value} {F : Fo} (h : FoAt w cs F) : cs.length = 2 := by
  obtain ⟨A, n, c, A', n', c', e, h1, h2, h3⟩ := h
  rw [e]; rfl
theorem FoAt.one {w : World} {cs : List Value} {F : Fo} (h : FoAt w cs F) : ∀ v ∈ cs, v.oneCell' = true := by
  obtain ⟨A, n, c, A', n', c', e, h1, h2, h3⟩ := h
  subst e
  intro v hv
  simp at hv
  rcases hv with rfl | rfl <;> rfl
/-- a change laid in a variable of its own -/
theorem ch_var {w : World} {x : Ch} {K : Nat → World → Prop} (hK : ∀ b w', Fr (fun _ => False) w w' → RecAt w' b 27 (encC x) → K b w') :
    nw w Z27 27 fun b w1 => gd ((encC x).length == 4) (st w1 b 0 (encC x) fun w2 => K b w2) := by
  refine nw_mk (gd_mk rfl ?_)
  have f1 : Fr (fun _ => False) w (w.alloc (.cells Z27.toArray 27)) := Fr.alloc _ _ _
  have r1 := RecAt.new w Z27 27
  generalize hb : w.heap.size = b at r1 ⊢
  generalize w.alloc (.cells Z27.toArray 27) = w1 at f1 r1 ⊢
  refine r1.st_mk (o := 0) (by show 0 + 4 ≤ 4; omega) (encC_o.one x) (fun r2 f2 => hK _ _ (f1.trans f2 (fun _ _ h => h) (fun k hk h => by omega)) ?_)
  have e : splice Z27 0 (encC x) = encC x := splice_full rfl
  rw [e] at r2
  exact r2
/-- how many changes a number means -/
def cnt (n : Int) (P : List Ch) : Nat := if n < 0 then 0 else min n.toNat P.length
theorem cnt_le (n : Int) (P : List Ch) : cnt n P ≤ P.length := by unfold cnt; split <;> omega
theorem cnt_eq (n : Int) (P : List Ch) (m : Nat) (hm : P.length = m) : (if 0 < (if ((m : Nat) : Int) < n then ((m : Nat) : Int) else n) then (if ((m : Nat) : Int) < n then ((m : Nat) : Int) else n) else 0) = ((cnt n P : Nat) : Int) := by
  subst hm
  unfold cnt
  (repeat' split) <;> omega
def behF (F : Fo) (n : Int) : List Nm := behN F.L (F.P.take (cnt n F.P))
theorem behF_asc (F : Fo) (n : Int) : AscN (behF F n) := behN_asc _ _
theorem behF_len (F : Fo) (n : Int) : (behF F n).length ≤ F.L.length + F.P.length := by
  have := behN_len F.L (F.P.take (cnt n F.P))
  have h2 : (F.P.take (cnt n F.P)).length ≤ F.P.length := by rw [List.length_take]; omega
  unfold behF; omega
theorem sl_cut0 {w : World} {sz : Nat} {A : Option Addr} {n k c : Nat} {vs : List Value} (h : Sl w sz A n vs) (hk : k ≤ n) : Sl w sz (slA A c 0 sz) k (vs.take (k * sz)) := by
  have h2 := h.headS hk
  refine ⟨h2.1, fun h0 => ?_⟩
  obtain ⟨b, o, hA, hc⟩ := h2.2 h0
  refine ⟨b, o, ?_, hc⟩
  rw [hA]
  unfold slA
  split
  · rfl
  · rw [Option.map_some, add_none, Nat.zero_mul]; rfl
def FoB (F : Fo) : Prop := F.L.length + F.P.length ≤ 349525
set_option maxHeartbeats 1000000 in
theorem beh_calls (cs : List Value) (F : Fo) (n : Int) (w : World) (h : FoAt w cs F) (hb : FoB F) :
    Calls Try.prog 27 #[ofL cs, .int .i64 n] w fun e w' => Fr (fun _ => False) w w' ∧ ∃ A' c', e = .returned (.slice A' (behF F n).length c') ∧ NRow w' w.heap.size A' (behF F n).length c' (behF F n) := by
  refine (F27.of cs n w (Q := fun v' w' => Fr (fun _ => False) w w' ∧ ∃ A' c', v' = .slice A' (behF F n).length c' ∧ NRow w' w.heap.size A' (behF F n).length c' (behF F n)) ?_).mono (fun e w' ⟨v, he, hf, A', c', hv, h⟩ => ⟨hf, A', c', by rw [he, hv], h⟩)
  obtain ⟨A, m, c, A', m', c', rfl, hL, hP, hPc⟩ := h
  have hb : F.L.length + F.P.length ≤ 349525 := hb
  have hLl := hL.2
  have hPl := hP.2
  refine nw_mk ?_
  have f1 : Fr (fun _ => False) w (w.alloc (.cells [Value.slice A m c, .slice A' m' c'].toArray 25)) := Fr.alloc _ _ _
  have r1 := RecAt.new w [Value.slice A m c, .slice A' m' c'] 25
  generalize w.alloc (.cells [Value.slice A m c, .slice A' m' c'].toArray 25) = w1 at f1 r1 ⊢
  refine ⟨[Value.slice A m c, .slice A' m' c'], rfl, r1.cells (fun j v hj => by simpa using hj), (lasts_calls A m c F.L _ w1 (hL.fr0 f1) (by omega)).mono ?_⟩
  rintro r w2 ⟨f2, A2, c2, rfl, h2⟩
  have r2 := r1.fr f2 (fun h => h)
  refine ⟨_, _, _, rfl, A', m', c', r2.cell rfl, A', m', c', r2.cell rfl, ?_⟩
  have hk := cnt_le n F.P
  dsimp only
  simp only [cnt_eq n F.P m' hPl]
  generalize hkk : cnt n F.P = k at hk ⊢
  refine gd_mk (decide_eq_true (by omega)) (gd_mk (decide_eq_true (by omega)) (jnC_mk ?_))
  simp only [Int.toNat_natCast]
  have hPk : CSl w1 (slA A' c' 0 4) k (F.P.take k) := by
    have := sl_cut0 (c := c') (hP.fr0 f1).1 (k := k) (by omega)
    rw [encC_o.ft F.P hk] at this
    exact ⟨this, by rw [List.length_take]; omega⟩
  refine loop_rule (fun s u => Fr (fun _ => False) w1 u ∧ ∃ (i : Nat) (A2 : Option Addr) (c2 : Nat), i ≤ k ∧ s = ((A2, (behN F.L (F.P.take i)).length, c2), (slA A' c' 0 4, k, c'), (k : Int), (i : Int), ()) ∧ NRow u w1.heap.size A2 (behN F.L (F.P.take i)).length c2 (behN F.L (F.P.take i)))
    (fun s _ => (k - s.2.2.2.1).toNat) ?_ _ _ ⟨f2, 0, A2, c2, by omega, rfl, h2⟩
  rintro s u C ⟨hf, i, A3, c3, hi, rfl, h3⟩ hC _
  refine vIf_mk (fun hlt => ?_) (fun hge => ?_)
  · have hlt2 : (i : Int) < (k : Int) := of_decide_eq_true hlt
    have gi : F.P[i]? = some (F.P[i]'(by omega)) := List.getElem?_eq_getElem (by omega)
    generalize F.P[i]'(by omega) = x at gi
    have hst := behN_step (L := F.L) gi
    have hbl := behN_len F.L (F.P.take i)
    have htl : (F.P.take i).length ≤ F.P.length := by rw [List.length_take]; omega
    refine c_rd (hPk.fr0 hf) (x := x) (by rw [List.getElem?_take, if_pos (by omega)]; exact gi) rfl (ch_var (fun b u2 g2 r2 => ⟨encC x, rfl, r2.cells (fun j v hj => by simpa using hj), ?_⟩))
    refine (step_calls w1.heap.size A3 _ c3 _ x u2 (h3.fr0 g2) (behN_asc _ _) (by have := hf.size; have := g2.size; omega) (by omega)).mono ?_
    rintro r u3 ⟨g3, A4, c4, rfl, h4⟩
    rw [← hst] at h4 ⊢
    refine ⟨_, _, _, rfl, jnC_mk (hC _ _ ⟨fr_own (hf.trans1 g2) (fun q hq => (h3.1.blt hq).1) (Nat.le_refl _) g3, i + 1, A4, c4, by omega, by rw [ei i (by omega)], h4⟩ ?_)⟩
    show ((k : Int) - IntKind.wrap .i64 ((i : Int) + 1)).toNat < ((k : Int) - (i : Int)).toNat
    rw [ei i (by omega)]; omega
  · have hge2 : ¬ (i : Int) < (k : Int) := of_decide_eq_false hge
    have hik : i = k := by omega
    subst hik
    have e : behF F n = behN F.L (F.P.take i) := by unfold behF; rw [hkk]
    rw [e]
    exact ⟨f1.trans1 hf, A3, c3, rfl, row_low f1.size h3.1, h3.2⟩
end Go.Proofs.Ytglojgicnchnpaa
