import Derived.Shelf.Lays
import Derived.Test.YtfdhaeglhkmmpaaGreatProg
import Derived.Shelf.Sort.Plain
import Derived.Shelf.Slices.In.SortNone
import Derived.Test.YtfdhaeglhkmmpaaGreatP3
/- folders (chapter 11): lasts, set, cut, step, behind, Now, Find -/
namespace Go.Proofs.YtfdhaeglhkmmpaaGreat
open Go.GV Go.RowKit Go.Lib Go.Stb
set_option linter.unusedVariables false
set_option linter.unusedSimpArgs false
theorem fr_own {S : Nat → Prop} {w u v : World} {A : Option Addr} {b : Nat} (f : Fr (fun _ => False) w u) (hb : ∀ k, blkOf A = some k → b ≤ k) (hw : w.heap.size ≤ b) (g : Fr (fun k => blkOf A = some k) u v) : Fr S w v :=
  f.trans g (fun _ _ h => h.elim) (fun k hk h => by have := hb k h; omega)
theorem lasts_calls (A : Option Addr) (n c : Nat) (L : List Nm) (p : Value) (w : World) (h : NSl w A n L) (hn : n ≤ 1073741824) :
    Calls Tryz.prog 89 #[ofL [.slice A n c, p]] w fun e w' => Fr (fun _ => False) w w' ∧ ∃ A' c', e = .returned (.slice A' (lastN L).length c') ∧ NRow w' w.heap.size A' (lastN L).length c' (lastN L) := by
  refine (F89.of _ w (Q := fun v w' => Fr (fun _ => False) w w' ∧ ∃ A' c', v = .slice A' (lastN L).length c' ∧ NRow w' w.heap.size A' (lastN L).length c' (lastN L)) ?_).mono (fun e w' ⟨v, he, hf, A', c', hv, h⟩ => ⟨hf, A', c', by rw [he, hv], h⟩)
  refine nw_mk ?_
  have f1 : Fr (fun _ => False) w (w.alloc (.cells [Value.slice A n c, p].toArray 64)) := Fr.alloc _ _ _
  have r1 := RecAt.new w [Value.slice A n c, p] 64
  generalize w.alloc (.cells [Value.slice A n c, p].toArray 64) = w1 at f1 r1 ⊢
  have hsz := f1.size
  refine ⟨A, n, c, r1.cell rfl, (ClnNm.clone_calls A n c _ w1 (h.fr0 f1).1 (encN_o.fo L) hn).mono ?_⟩
  rintro r w2 ⟨f2, A2, c2, rfl, h2⟩
  refine ⟨_, _, _, rfl, (StbNm.sortStable_calls lsrt w1.heap.size A2 n c2 L w2 h2 h.2 (by omega)).mono ?_⟩
  rintro r w3 ⟨rfl, f3, h3⟩
  refine ⟨rfl, (compactN_calls w1.heap.size A2 c2 (stab cmpM L) n w3 ⟨h3, by rw [stab_len]; exact h.2⟩ (by omega)).mono ?_⟩
  have hc : cptN (stab cmpM L) n = lastN L := by rw [← h.2]; exact last_eq L
  rw [hc]
  rintro r w4 ⟨rfl, f4, h4⟩
  have hA2 : ∀ k, blkOf A2 = some k → w1.heap.size ≤ k := fun k hk => (h2.blt hk).1
  refine ⟨_, _, _, rfl, fr_own (f1.trans1 f2) hA2 (by omega) (f3.trans1 f4), A2, c2, rfl, ⟨?_, h4.2⟩⟩
  exact row_low hsz h4.1
theorem set_calls (B : Nat) (A : Option Addr) (n c : Nat) (l : List Nm) (s : ByteArray) (v : Int) (w : World) (h : NRow w B A n c l) (ha : AscN l) (hB : B ≤ w.heap.size) (hn : n ≤ 1073741824) :
    Calls Tryz.prog 117 #[.slice A n c, .string s, .int .i64 v] w fun e w' => Fr (fun k => blkOf A = some k) w w' ∧ ∃ A' c', e = .returned (.slice A' (putN (s, v) l).length c') ∧ NRow w' B A' (putN (s, v) l).length c' (putN (s, v) l) := by
  refine (F117.of A n c s v w (Q := fun v' w' => Fr (fun k => blkOf A = some k) w w' ∧ ∃ A' c', v' = .slice A' (putN (s, v) l).length c' ∧ NRow w' B A' (putN (s, v) l).length c' (putN (s, v) l)) ?_).mono (fun e w' ⟨v, he, hf, A', c', hv, h⟩ => ⟨hf, A', c', by rw [he, hv], h⟩)
  refine (bsN_calls A n c l s w h.sl ha (by omega)).mono ?_
  rintro r w2 ⟨f2, i, rfl, hp⟩
  have h2 := h.fr0 f2
  have hin := hp.1
  have hl := h.2
  refine ⟨_, _, rfl, vIf_mk (fun hi => ?_) (fun hi => ?_)⟩
  · obtain ⟨x, hx, hs⟩ := isN_at hi
    have hil := (List.getElem?_eq_some_iff.1 hx).1
    have hpt := row_putG (o' := i * 2 + 1) (us := [Value.int .i64 v]) (K := fun w' => Fr (fun k => blkOf A = some k) w w' ∧ ∃ A' c', Value.slice A n c = .slice A' (putN (s, v) l).length c' ∧ NRow w' B A' (putN (s, v) l).length c' (putN (s, v) l)) h2.1 (by omega) (by simp; omega) (by simp; rfl) (fun w6 hr6 f6 => ?_)
    · rw [dr_iff] at hpt
      obtain ⟨b, o, hA, hpt⟩ := hpt
      rw [hA]
      refine dr_mk (gd_mk (decide_eq_true (by omega)) (gd_mk (decide_eq_true (by omega)) ?_))
      rw [Int.toNat_natCast, ← hA]
      exact hpt
    · rw [put_in hp hx hs, List.length_set, hl]
      refine ⟨(f2.mono (fun _ _ h => h.elim)).trans1 f6, A, c, rfl, ?_, by rw [List.length_set, hl]⟩
      have e : splice (flt encN l) (i * 2 + 1) [Value.int .i64 v] = flt encN (l.set i (s, v)) := by
        rw [← flt_set (enc := encN) (sz := 2) (fun _ _ => rfl) (by omega) rfl]
        apply List.ext_getElem?
        intro j
        have hfl := encN_o.fl l
        rw [splice_get (by simp; omega), splice_get (by show i * 2 + 2 ≤ _; omega)]
        have g0 : (flt encN l)[i * 2]? = some (.string s) := by
          have := flt_get (enc := encN) (sz := 2) (fun _ _ => rfl) hx 0 (by omega)
          rw [Nat.add_zero] at this
          rw [this, ← hs]; rfl
        by_cases h1 : j < i * 2
        · rw [if_pos (by omega), if_pos h1]
        · by_cases h2 : j = i * 2
          · subst h2
            rw [if_pos (by omega), if_neg (by omega), if_pos (by show i * 2 < i * 2 + 2; omega), g0, Nat.sub_self]; rfl
          · rw [if_neg (by omega), if_neg h1]
            by_cases h3 : j = i * 2 + 1
            · subst h3
              rw [if_pos (by simp), if_pos (by show i * 2 + 1 < i * 2 + 2; omega), Nat.sub_self, show i * 2 + 1 - i * 2 = 1 by omega]; rfl
            · rw [if_neg (by simp; omega), if_neg (by show ¬ j < i * 2 + 2; omega)]
      rw [← e]
      exact hr6
  · refine gd_mk rfl (nw_mk ?_)
    have f3 : Fr (fun _ => False) w2 (w2.alloc (.cells (encN (s, v)).toArray 94)) := Fr.alloc _ _ _
    have r3 := RecAt.new w2 (encN (s, v)) 94
    show Calls _ _ _ (w2.alloc (.cells (encN (s, v)).toArray 94)) _
    have hA2 : blkOf A ≠ some w2.heap.size := fun e => by have := (h2.1.blt e).2; omega
    generalize hb3 : w2.heap.size = b3 at r3 hA2 ⊢
    generalize w2.alloc (.cells (encN (s, v)).toArray 94) = w3 at f3 r3 ⊢
    have h3 := h2.fr0 f3
    refine (InsNm.insert_calls encN_o B A n c i l (s, v) b3 w3 h3.1 hl (by omega) r3 hA2 (by have := f2.size; have := f3.size; omega) hn).mono ?_
    rintro r w4 ⟨A4, c4, rfl, f4, h4, _⟩
    have hi : isN s i l = false := hi
    rw [← put_out hp ha hi] at h4
    have hlen : (putN (s, v) l).length = n + 1 := by rw [put_out hp ha hi]; simp; omega
    rw [hlen]
    exact ⟨_, _, _, rfl, ((f2.trans1 f3).mono (fun _ _ h => h.elim)).trans1 f4, A4, c4, rfl, h4, hlen⟩
theorem cut_calls (B : Nat) (A : Option Addr) (n c : Nat) (l : List Nm) (s : ByteArray) (w : World) (h : NRow w B A n c l) (ha : AscN l) (hn : n ≤ 1073741824) :
    Calls Tryz.prog 118 #[.slice A n c, .string s] w fun e w' => Fr (fun k => blkOf A = some k) w w' ∧ e = .returned (.tuple #[.slice A (woN s l).length c, .int .i64 ((findN s l).getD 0), .bool (findN s l).isSome]) ∧ NRow w' B A (woN s l).length c (woN s l) ∧ (findN s l = none → Fr (fun _ => False) w w') := by
  refine (F118.of A n c s w (Q := fun v' w' => Fr (fun k => blkOf A = some k) w w' ∧ v' = .tuple #[.slice A (woN s l).length c, .int .i64 ((findN s l).getD 0), .bool (findN s l).isSome] ∧ NRow w' B A (woN s l).length c (woN s l) ∧ (findN s l = none → Fr (fun _ => False) w w')) ?_).mono (fun e w' ⟨v, he, hf, hv, h⟩ => ⟨hf, by rw [he, hv], h⟩)
  refine (bsN_calls A n c l s w h.sl ha (by omega)).mono ?_
  rintro r w2 ⟨f2, i, rfl, hp⟩
  have h2 := h.fr0 f2
  have hin := hp.1
  have hl := h.2
  refine ⟨_, _, rfl, vIf_mk (fun hi => ?_) (fun hi => ?_)⟩
  · have hi : isN s i l = false := by simpa using hi
    obtain ⟨e1, e2⟩ := wo_out hp ha hi
    rw [e1, e2, hl]
    exact ⟨f2.mono (fun _ _ h => h.elim), rfl, h2, fun _ => f2⟩
  · have hi : isN s i l = true := by simpa using hi
    obtain ⟨x, hx, hs⟩ := isN_at hi
    have hil := (List.getElem?_eq_some_iff.1 hx).1
    refine n_rdI h2.sl hx rfl ((DelNm.delete_calls encN_o B A n c i l w2 h2.1 hl (by omega) hn (ei i (by omega))).mono ?_)
    rintro r w3 ⟨rfl, f3, h3⟩
    have e1 := wo_in hp ha hx hs
    have e2 := find_in hp hx hs
    rw [← e1] at h3
    have hlen : (woN s l).length = n - 1 := by rw [e1]; simp; omega
    rw [hlen, e2]
    exact ⟨_, _, _, rfl, (f2.mono (fun _ _ h => h.elim)).trans1 f3, rfl, ⟨h3, hlen⟩, fun h => by cases h⟩
theorem step_calls (B : Nat) (A : Option Addr) (n c : Nat) (l : List Nm) (x : Ch) (w : World) (h : NRow w B A n c l) (ha : AscN l) (hB : B ≤ w.heap.size) (hn : n ≤ 1073741823) :
    Calls Tryz.prog 90 #[.slice A n c, ofL (encC x)] w fun e w' => Fr (fun k => blkOf A = some k) w w' ∧ ∃ A' c', e = .returned (.slice A' (stepN l x).length c') ∧ NRow w' B A' (stepN l x).length c' (stepN l x) := by
  refine (F90.of A n c _ w (Q := fun v' w' => Fr (fun k => blkOf A = some k) w w' ∧ ∃ A' c', v' = .slice A' (stepN l x).length c' ∧ NRow w' B A' (stepN l x).length c' (stepN l x)) ?_).mono (fun e w' ⟨v, he, hf, A', c', hv, h⟩ => ⟨hf, A', c', by rw [he, hv], h⟩)
  refine nw_mk ?_
  have f1 : Fr (fun _ => False) w (w.alloc (.cells (encC x).toArray 82)) := Fr.alloc _ _ _
  have r1 := RecAt.new w (encC x) 82
  have hb1 : ∀ k, blkOf A = some k → k ≠ w.heap.size := fun k hk e => by have := (h.1.blt hk).2; omega
  generalize w.heap.size = b1 at r1 hb1 ⊢
  generalize w.alloc (.cells (encC x).toArray 82) = w1 at f1 r1 ⊢
  have f1' : Fr (fun k => blkOf A = some k) w w1 := f1.mono (fun _ _ h => h.elim)
  have h1 := h.fr0 f1
  have hB1 : B ≤ w1.heap.size := by have := f1.size; omega
  have hl := h.2
  refine ⟨x.k, r1.cell rfl, vIf_mk (fun hk => ?_) (fun hk => vIf_mk (fun hk3 => ?_) (fun hk3 => vIf_mk (fun hk2 => ?_) (fun hk2 => ?_)))⟩
  · have hk : x.k = 1 := by simpa using hk
    have e : stepN l x = putN (x.nm, x.id) l := if_pos hk
    rw [e]
    refine ⟨x.nm, r1.cell rfl, x.id, r1.cell rfl, (set_calls B A n c l x.nm x.id w1 h1 ha hB1 (by omega)).mono ?_⟩
    rintro r w2 ⟨f2, A2, c2, rfl, h2⟩
    exact ⟨_, _, _, rfl, f1'.trans1 f2, A2, c2, rfl, h2⟩
  · have hk : ¬ x.k = 1 := by simpa using hk
    have hk3 : x.k = 3 := by simpa using hk3
    have e : stepN l x = woN x.nm l := by unfold stepN; rw [if_neg hk, if_neg (by omega), if_pos hk3]
    rw [e]
    refine ⟨x.nm, r1.cell rfl, (cut_calls B A n c l x.nm w1 h1 ha (by omega)).mono ?_⟩
    rintro r w2 ⟨f2, rfl, h2, _⟩
    exact ⟨_, _, _, _, _, rfl, f1'.trans1 f2, A, c, rfl, h2⟩
  · have hk : ¬ x.k = 1 := by simpa using hk
    have hk2 : x.k = 2 := by simpa using hk2
    refine ⟨x.nm, r1.cell rfl, (cut_calls B A n c l x.nm w1 h1 ha (by omega)).mono ?_⟩
    rintro r w2 ⟨f2, rfl, h2, hno⟩
    refine ⟨_, _, _, _, _, rfl, vIf_mk (fun hi => ?_) (fun hi => ?_)⟩
    · cases hf : findN x.nm l with
      | none => rw [hf] at hi; cases hi
      | some id =>
        have e : stepN l x = putN (x.to, id) (woN x.nm l) := by unfold stepN; rw [if_neg hk, if_pos hk2, hf]
        rw [e]
        have hwl := woN_len x.nm l
        refine ⟨x.to, (r1.fr f2 (fun e => hb1 _ e rfl)).cell rfl, (set_calls B A _ c _ x.to id w2 h2 (woN_asc _ ha) (by have := f2.size; omega) (by omega)).mono ?_⟩
        rintro r w3 ⟨f3, A3, c3, rfl, h3⟩
        exact ⟨_, _, _, rfl, (f1'.trans1 f2).trans1 f3, A3, c3, rfl, h3⟩
    · cases hf : findN x.nm l with
      | some id => rw [hf] at hi; cases hi
      | none =>
        have e : stepN l x = l := by unfold stepN; rw [if_neg hk, if_pos hk2, hf]
        rw [e, hl]
        exact ⟨f1'.trans1 f2, A, c, rfl, h1.fr0 (hno hf)⟩
  · have hk : ¬ x.k = 1 := by simpa using hk
    have hk3 : ¬ x.k = 3 := by simpa using hk3
    have hk2 : ¬ x.k = 2 := by simpa using hk2
    have e : stepN l x = l := by unfold stepN; rw [if_neg hk, if_neg hk2, if_neg hk3]
    rw [e, hl]
    exact ⟨f1', A, c, rfl, h1⟩
/-! ### folders -/
structure Fo where
  L : List Nm
  P : List Ch
def CSl (w : World) (A : Option Addr) (n : Nat) (l : List Ch) : Prop := Sl w 4 A n (flt encC l) ∧ l.length = n
theorem CSl.fr0 {w w' : World} {A : Option Addr} {n : Nat} {l : List Ch} (h : CSl w A n l) (f : Fr (fun _ => False) w w') : CSl w' A n l := ⟨f.sl h.1 (fun _ _ _ h => h), h.2⟩
theorem c_rd {w : World} {A : Option Addr} {n : Nat} {l : List Ch} (h : CSl w A n l) {i : Nat} {x : Ch} (hi : l[i]? = some x) {ii : Int} (hii : ii = (i : Int)) {K : List Value → Prop} (hK : K (encC x)) :
    dr A fun b o => gd (decide (0 ≤ ii)) (gd (decide (ii < ((n : Nat) : Int))) (ldA 4 w b (o + ii.toNat * 4) K)) :=
  el_rd h.1 (fun x _ => rfl) hi hii h.2 (fun b o hA hc => ⟨encC x, rfl, hc, hK⟩)
def FoAt (w : World) (cs : List Value) (F : Fo) : Prop := ∃ A n c A' n' c', cs = [.slice A n c, .slice A' n' c'] ∧ NSl w A n F.L ∧ CSl w A' n' F.P ∧ n' ≤ c'
theorem FoAt.fr0 {w w' : World} {cs : List Value} {F : Fo} (h : FoAt w cs F) (f : Fr (fun _ => False) w w') : FoAt w' cs F := by
  obtain ⟨A, n, c, A', n', c', e, h1, h2, h3⟩ := h
  exact ⟨A, n, c, A', n', c', e, h1.fr0 f, h2.fr0 f, h3⟩
theorem FoAt.len {w : World} {cs : List Value} {F : Fo} (h : FoAt w cs F) : cs.length = 2 := by
  obtain ⟨A, n, c, A', n', c', e, h1, h2, h3⟩ := h
  rw [e]; rfl
theorem FoAt.one {w : World} {cs : List Value} {F : Fo} (h : FoAt w cs F) : ∀ v ∈ cs, v.oneCell' = true := by
  obtain ⟨A, n, c, A', n', c', e, h1, h2, h3⟩ := h
  subst e
  intro v hv
  simp at hv
  rcases hv with rfl | rfl <;> rfl
/-- a change laid in a variable of its own -/
theorem ch_var {w : World} {x : Ch} {K : Nat → World → Prop} (hK : ∀ b w', Fr (fun _ => False) w w' → RecAt w' b 82 (encC x) → K b w') :
    nw w Z82 82 fun b w1 => gd ((encC x).length == 4) (st w1 b 0 (encC x) fun w2 => K b w2) := by
  refine nw_mk (gd_mk rfl ?_)
  have f1 : Fr (fun _ => False) w (w.alloc (.cells Z82.toArray 82)) := Fr.alloc _ _ _
  have r1 := RecAt.new w Z82 82
  generalize hb : w.heap.size = b at r1 ⊢
  generalize w.alloc (.cells Z82.toArray 82) = w1 at f1 r1 ⊢
  refine r1.st_mk (o := 0) (by show 0 + 4 ≤ 4; omega) (encC_o.one x) (fun r2 f2 => hK _ _ (f1.trans f2 (fun _ _ h => h) (fun k hk h => by omega)) ?_)
  have e : splice Z82 0 (encC x) = encC x := splice_full rfl
  rw [e] at r2
  exact r2
/-- how many changes a number means -/
def cnt (n : Int) (P : List Ch) : Nat := if n < 0 then 0 else min n.toNat P.length
theorem cnt_le (n : Int) (P : List Ch) : cnt n P ≤ P.length := by unfold cnt; split <;> omega
theorem cnt_eq (n : Int) (P : List Ch) (m : Nat) (hm : P.length = m) : (if 0 < (if ((m : Nat) : Int) < n then ((m : Nat) : Int) else n) then (if ((m : Nat) : Int) < n then ((m : Nat) : Int) else n) else 0) = ((cnt n P : Nat) : Int) := by
  subst hm
  unfold cnt
  (repeat' split) <;> omega
def behF (F : Fo) (n : Int) : List Nm := behN F.L (F.P.take (cnt n F.P))
theorem behF_asc (F : Fo) (n : Int) : AscN (behF F n) := behN_asc _ _
theorem behF_len (F : Fo) (n : Int) : (behF F n).length ≤ F.L.length + F.P.length := by
  have := behN_len F.L (F.P.take (cnt n F.P))
  have h2 : (F.P.take (cnt n F.P)).length ≤ F.P.length := by rw [List.length_take]; omega
  unfold behF; omega
theorem sl_cut0 {w : World} {sz : Nat} {A : Option Addr} {n k c : Nat} {vs : List Value} (h : Sl w sz A n vs) (hk : k ≤ n) : Sl w sz (slA A c 0 sz) k (vs.take (k * sz)) := by
  have h2 := h.headS hk
  refine ⟨h2.1, fun h0 => ?_⟩
  obtain ⟨b, o, hA, hc⟩ := h2.2 h0
  refine ⟨b, o, ?_, hc⟩
  rw [hA]
  unfold slA
  split
  · rfl
  · rw [Option.map_some, add_none, Nat.zero_mul]; rfl
def FoB (F : Fo) : Prop := F.L.length + F.P.length ≤ 349525
set_option maxHeartbeats 1000000 in
theorem beh_calls (cs : List Value) (F : Fo) (n : Int) (w : World) (h : FoAt w cs F) (hb : FoB F) :
    Calls Tryz.prog 69 #[ofL cs, .int .i64 n] w fun e w' => Fr (fun _ => False) w w' ∧ ∃ A' c', e = .returned (.slice A' (behF F n).length c') ∧ NRow w' w.heap.size A' (behF F n).length c' (behF F n) := by
  refine (F69.of cs n w (Q := fun v' w' => Fr (fun _ => False) w w' ∧ ∃ A' c', v' = .slice A' (behF F n).length c' ∧ NRow w' w.heap.size A' (behF F n).length c' (behF F n)) ?_).mono (fun e w' ⟨v, he, hf, A', c', hv, h⟩ => ⟨hf, A', c', by rw [he, hv], h⟩)
  obtain ⟨A, m, c, A', m', c', rfl, hL, hP, hPc⟩ := h
  have hb : F.L.length + F.P.length ≤ 349525 := hb
  have hLl := hL.2
  have hPl := hP.2
  refine nw_mk ?_
  have f1 : Fr (fun _ => False) w (w.alloc (.cells [Value.slice A m c, .slice A' m' c'].toArray 64)) := Fr.alloc _ _ _
  have r1 := RecAt.new w [Value.slice A m c, .slice A' m' c'] 64
  generalize w.alloc (.cells [Value.slice A m c, .slice A' m' c'].toArray 64) = w1 at f1 r1 ⊢
  refine ⟨[Value.slice A m c, .slice A' m' c'], rfl, r1.cells (fun j v hj => by simpa using hj), (lasts_calls A m c F.L _ w1 (hL.fr0 f1) (by omega)).mono ?_⟩
  rintro r w2 ⟨f2, A2, c2, rfl, h2⟩
  have r2 := r1.fr f2 (fun h => h)
  refine ⟨_, _, _, rfl, A', m', c', r2.cell rfl, A', m', c', r2.cell rfl, ?_⟩
  have hk := cnt_le n F.P
  dsimp only
  simp only [cnt_eq n F.P m' hPl]
  generalize hkk : cnt n F.P = k at hk ⊢
  refine gd_mk (decide_eq_true (by omega)) (gd_mk (decide_eq_true (by omega)) (jnC_mk ?_))
  simp only [Int.toNat_natCast]
  have hPk : CSl w1 (slA A' c' 0 4) k (F.P.take k) := by
    have := sl_cut0 (c := c') (hP.fr0 f1).1 (k := k) (by omega)
    rw [encC_o.ft F.P hk] at this
    exact ⟨this, by rw [List.length_take]; omega⟩
  refine loop_rule (fun s u => Fr (fun _ => False) w1 u ∧ ∃ (i : Nat) (A2 : Option Addr) (c2 : Nat), i ≤ k ∧ s = ((A2, (behN F.L (F.P.take i)).length, c2), (slA A' c' 0 4, k, c'), (k : Int), (i : Int), ()) ∧ NRow u w1.heap.size A2 (behN F.L (F.P.take i)).length c2 (behN F.L (F.P.take i)))
    (fun s _ => (k - s.2.2.2.1).toNat) ?_ _ _ ⟨f2, 0, A2, c2, by omega, rfl, h2⟩
  rintro s u C ⟨hf, i, A3, c3, hi, rfl, h3⟩ hC _
  refine vIf_mk (fun hlt => ?_) (fun hge => ?_)
  · have hlt2 : (i : Int) < (k : Int) := of_decide_eq_true hlt
    have gi : F.P[i]? = some (F.P[i]'(by omega)) := List.getElem?_eq_getElem (by omega)
    generalize F.P[i]'(by omega) = x at gi
    have hst := behN_step (L := F.L) gi
    have hbl := behN_len F.L (F.P.take i)
    have htl : (F.P.take i).length ≤ F.P.length := by rw [List.length_take]; omega
    refine c_rd (hPk.fr0 hf) (x := x) (by rw [List.getElem?_take, if_pos (by omega)]; exact gi) rfl (ch_var (fun b u2 g2 r2 => ⟨encC x, rfl, r2.cells (fun j v hj => by simpa using hj), ?_⟩))
    refine (step_calls w1.heap.size A3 _ c3 _ x u2 (h3.fr0 g2) (behN_asc _ _) (by have := hf.size; have := g2.size; omega) (by omega)).mono ?_
    rintro r u3 ⟨g3, A4, c4, rfl, h4⟩
    rw [← hst] at h4 ⊢
    refine ⟨_, _, _, rfl, jnC_mk (hC _ _ ⟨fr_own (hf.trans1 g2) (fun q hq => (h3.1.blt hq).1) (Nat.le_refl _) g3, i + 1, A4, c4, by omega, by rw [ei i (by omega)], h4⟩ ?_)⟩
    show ((k : Int) - IntKind.wrap .i64 ((i : Int) + 1)).toNat < ((k : Int) - (i : Int)).toNat
    rw [ei i (by omega)]; omega
  · have hge2 : ¬ (i : Int) < (k : Int) := of_decide_eq_false hge
    have hik : i = k := by omega
    subst hik
    have e : behF F n = behN F.L (F.P.take i) := by unfold behF; rw [hkk]
    rw [e]
    exact ⟨f1.trans1 hf, A3, c3, rfl, row_low f1.size h3.1, h3.2⟩
end Go.Proofs.YtfdhaeglhkmmpaaGreat
/- folders (chapter 11): the document's find, put, without, Behind -/
namespace Go.Proofs.YtfdhaeglhkmmpaaGreat
open Go.GV Go.RowKit Go.Lib Go.Stb
set_option linter.unusedVariables false
set_option linter.unusedSimpArgs false
theorem gtr_cmp (a b : ByteArray) : (!((Op.bytesLess a.toList b.toList) || (a.toList == b.toList))) = decide (cmpN b a < 0) := by
  rw [nlt, neq, Bool.eq_iff_iff]
  have h1 := cmpN_anti a b
  have h2 := cmpN_zero a b
  by_cases h : a = b
  · subst h; simp [cmpN_self]
  · have : cmpN a b ≠ 0 := fun h' => h (h2.1 h')
    simp only [h, decide_false, Bool.or_false, Bool.not_eq_true', decide_eq_false_iff_not, decide_eq_true_iff]
    omega
theorem push_n {w : World} {B : Nat} {A : Option Addr} {n c : Nat} {out : List Nm} {x : Nm} {K : Option Addr → Nat → Nat → World → Prop} (hr : NRow w B A n c out) (hB : B ≤ w.heap.size) (hn : n ≤ 1073741824)
    (hK : ∀ A' c' w', NRow w' B A' (n + 1) c' (out ++ [x]) → Fr (fun k => blkOf A = some k) w w' → K A' (n + 1) c' w') : nw w (encN x ++ []) 94 fun b w' => app w' 2 24 [Value.string (⟨#[]⟩ : ByteArray), Value.int .i64 0] 94 A n c (.slice (some ⟨b, 0, none⟩) 1 1) K := by
  refine nw_mk ?_
  rw [List.append_nil]
  have f1 : Fr (fun _ => False) w (w.alloc (.cells (encN x).toArray 94)) := Fr.alloc _ _ _
  have r1 : Row (w.alloc (.cells (encN x).toArray 94)) 0 94 2 (some ⟨w.heap.size, 0, none⟩) 1 1 (encN x) := Row.new (Nat.zero_le _) rfl
  have hs : (w.alloc (.cells (encN x).toArray 94)).heap.size = w.heap.size + 1 := alloc_size _ _
  generalize w.alloc (.cells (encN x).toArray 94) = w1 at f1 r1 hs ⊢
  refine app_row (hr.fr0 f1).1 r1.sl.src (encN_o.one x) rfl (by omega) (by omega) (by omega) (fun A' c' w' hr' f' => hK A' c' w' ⟨?_, by rw [List.length_append, hr.2]; rfl⟩ ?_)
  · rw [flt_app, flt_one]; exact hr'
  · exact f1.trans f' (fun _ _ h => h.elim) (fun _ _ h => h)
theorem rfind_calls (A : Option Addr) (n c : Nat) (l : List Nm) (s : ByteArray) (w : World) (h : NSl w A n l) (hn : n ≤ 17179869184) :
    Calls Tryz.prog 80 #[.slice A n c, .string s] w fun e w' => e = .returned (.tuple #[.int .i64 ((findN s l).getD 0), .bool (findN s l).isSome]) ∧ Fr (fun _ => False) w w' := by
  refine (F80.of A n c s w (Q := fun v w' => v = .tuple #[.int .i64 ((findN s l).getD 0), .bool (findN s l).isSome] ∧ Fr (fun _ => False) w w') ?_).mono (fun e w' ⟨v, he, hv, h⟩ => ⟨by rw [he, hv], h⟩)
  have hl := h.2
  refine jnC_mk (loop_rule (fun t u => Fr (fun _ => False) w u ∧ ∃ i : Nat, i ≤ n ∧ t = ((A, n, c), s, (i : Int), ()) ∧ ∀ z ∈ l.take i, z.1 ≠ s) (fun t _ => (n - t.2.2.1).toNat) ?_ _ _ ⟨Fr.refl _ _, 0, by omega, rfl, by simp⟩)
  rintro t u C ⟨hf, i, hi, rfl, hall⟩ hC _
  refine vIf_mk (fun hlt => ?_) (fun hge => ?_)
  · have hlt2 : (i : Int) < (n : Int) := of_decide_eq_true hlt
    have gi : l[i]? = some (l[i]'(by omega)) := List.getElem?_eq_getElem (by omega)
    generalize l[i]'(by omega) = x at gi
    have hl' := h.fr0 hf
    refine n_rdS hl' gi rfl ?_
    dsimp only
    rw [neq]
    refine vIf_mk (fun he => n_rdI hl' gi rfl ⟨?_, hf⟩) (fun hne => jnC_mk (hC _ _ ⟨hf, i + 1, by omega, by rw [ei i (by omega)], fun z hz => ?_⟩ ?_))
    · have he := of_decide_eq_true he
      have e : findN s l = some x.2 := by
        rw [← List.take_append_drop i l, drop_at gi, findN_app, findN_none hall, findN, if_pos he]; rfl
      rw [e]; rfl
    · have hne := of_decide_eq_false hne
      rw [List.take_add_one, gi] at hz
      rcases List.mem_append.1 hz with hz | hz
      · exact hall z hz
      · simp at hz; subst hz; exact hne
    · show ((n : Int) - IntKind.wrap .i64 ((i : Int) + 1)).toNat < ((n : Int) - (i : Int)).toNat
      rw [ei i (by omega)]; omega
  · have hge2 : ¬ (i : Int) < (n : Int) := of_decide_eq_false hge
    rw [List.take_of_length_le (by omega)] at hall
    rw [findN_none hall]
    exact ⟨rfl, hf⟩
theorem rwo_calls (A : Option Addr) (n c : Nat) (l : List Nm) (s : ByteArray) (w : World) (h : NSl w A n l) (hn : n ≤ 1073741824) :
    Calls Tryz.prog 103 #[.slice A n c, .string s] w fun e w' => Fr (fun _ => False) w w' ∧ ∃ A' c', e = .returned (.slice A' (woN s l).length c') ∧ NRow w' w.heap.size A' (woN s l).length c' (woN s l) := by
  refine (F103.of A n c s w (Q := fun v w' => Fr (fun _ => False) w w' ∧ ∃ A' c', v = .slice A' (woN s l).length c' ∧ NRow w' w.heap.size A' (woN s l).length c' (woN s l)) ?_).mono (fun e w' ⟨v, he, hf, A', c', hv, h⟩ => ⟨hf, A', c', by rw [he, hv], h⟩)
  have hl := h.2
  refine jnC_mk (loop_rule (fun t u => Fr (fun _ => False) w u ∧ ∃ (i : Nat) (A' : Option Addr) (c' : Nat), i ≤ n ∧ t = ((A, n, c), s, (A', (woN s (l.take i)).length, c'), (i : Int), ()) ∧ NRow u w.heap.size A' (woN s (l.take i)).length c' (woN s (l.take i))) (fun t _ => (n - t.2.2.2.1).toNat) ?_ _ _ ⟨Fr.refl _ _, 0, none, 0, by omega, rfl, Row.nil _ _ _ _, rfl⟩)
  rintro t u C ⟨hf, i, A', c', hi, rfl, hr⟩ hC _
  refine vIf_mk (fun hlt => ?_) (fun hge => ?_)
  · have hlt2 : (i : Int) < (n : Int) := of_decide_eq_true hlt
    have gi : l[i]? = some (l[i]'(by omega)) := List.getElem?_eq_getElem (by omega)
    generalize l[i]'(by omega) = x at gi
    have hl' := h.fr0 hf
    have hst := woN_step (s := s) gi
    have hwl := woN_len s (l.take i)
    rw [List.length_take] at hwl
    have hmeas : ((n : Int) - IntKind.wrap .i64 ((i : Int) + 1)).toNat < ((n : Int) - (i : Int)).toNat := by rw [ei i (by omega)]; omega
    refine n_rdS hl' gi rfl ?_
    dsimp only
    rw [neq]
    refine vIf_mk (fun hne => ?_) (fun he => ?_)
    · have hne : x.1 ≠ s := by simpa using hne
      rw [if_pos hne] at hst
      refine n_rd hl' gi rfl (gd_mk rfl (push_n hr (by have := hf.size; omega) (by omega) (fun A2 c2 w2 hr2 f2 => jnC_mk (hC _ _ ⟨?_, i + 1, A2, c2, by omega, ?_, ?_⟩ hmeas))))
      · exact fr_own hf (fun q hq => (hr.1.blt hq).1) (Nat.le_refl _) f2
      · rw [hst, List.length_append, ei i (by omega)]; rfl
      · rw [hst, List.length_append]; exact hr2
    · have he : ¬ x.1 ≠ s := by simpa using he
      rw [if_neg he] at hst
      exact jnC_mk (hC _ _ ⟨hf, i + 1, A', c', by omega, by rw [hst, ei i (by omega)], by rw [hst]; exact hr⟩ hmeas)
  · have hge2 : ¬ (i : Int) < (n : Int) := of_decide_eq_false hge
    have hin : i = n := by omega
    subst hin
    rw [List.take_of_length_le (by omega)] at hr ⊢
    exact ⟨hf, A', c', rfl, hr⟩
theorem putS_len (x : Nm) : ∀ (l : List Nm) (s : List Nm × Bool), (l.foldl (putS x) s).1.length ≤ s.1.length + 2 * l.length
  | [], s => by simp
  | y :: r, s => by
    have ih := putS_len x r (putS x s y)
    have h1 : (putS x s y).1.length ≤ s.1.length + 2 := by
      unfold putS
      split
      · split <;> simp
      · split <;> simp
    rw [List.foldl_cons, List.length_cons]
    omega
theorem rput_calls (A : Option Addr) (n c : Nat) (l : List Nm) (x : Nm) (w : World) (h : NSl w A n l) (ha : AscN l) (hn : n ≤ 500000000) :
    Calls Tryz.prog 102 #[.slice A n c, ofL (encN x)] w fun e w' => Fr (fun _ => False) w w' ∧ ∃ A' c', e = .returned (.slice A' (putN x l).length c') ∧ NRow w' w.heap.size A' (putN x l).length c' (putN x l) := by
  refine (F102.of A n c _ w (Q := fun v w' => Fr (fun _ => False) w w' ∧ ∃ A' c', v = .slice A' (putN x l).length c' ∧ NRow w' w.heap.size A' (putN x l).length c' (putN x l)) ?_).mono (fun e w' ⟨v, he, hf, A', c', hv, h⟩ => ⟨hf, A', c', by rw [he, hv], h⟩)
  have hl := h.2
  refine nw_mk ?_
  have f1 : Fr (fun _ => False) w (w.alloc (.cells (encN x).toArray 94)) := Fr.alloc _ _ _
  have r1 := RecAt.new w (encN x) 94
  have hs1 : w.heap.size ≤ (w.alloc (.cells (encN x).toArray 94)).heap.size := f1.size
  have hlt1 : w.heap.size < (w.alloc (.cells (encN x).toArray 94)).heap.size := by rw [alloc_size]; omega
  generalize hb1 : w.heap.size = b1 at r1 hlt1 hs1 ⊢
  generalize w.alloc (.cells (encN x).toArray 94) = w1 at f1 r1 hs1 hlt1 ⊢
  have h1 := h.fr0 f1
  have hfold : ∀ i, ((l.take i).foldl (putS x) ([], false)).1.length ≤ 2 * i := fun i => by
    have := putS_len x (l.take i) ([], false)
    rw [List.length_take] at this
    simp only [List.length_nil] at this
    omega
  refine jnC_mk (loop_rule (fun t u => Fr (fun _ => False) w1 u ∧ ∃ (i : Nat) (A' : Option Addr) (c' : Nat), i ≤ n ∧ t = ((A, n, c), (b1, 0), (A', ((l.take i).foldl (putS x) ([], false)).1.length, c'), ((l.take i).foldl (putS x) ([], false)).2, (i : Int), ()) ∧ NRow u w1.heap.size A' ((l.take i).foldl (putS x) ([], false)).1.length c' ((l.take i).foldl (putS x) ([], false)).1) (fun t _ => (n - t.2.2.2.2.1).toNat) ?_ _ _ ⟨Fr.refl _ _, 0, none, 0, by omega, rfl, Row.nil _ _ _ _, rfl⟩)
  rintro t u C ⟨hf, i, A', c', hi, rfl, hr⟩ hC _
  have hfi := hfold i
  have r1u := r1.fr hf (fun h => h)
  have hBu := hf.size
  refine vIf_mk (fun hlt => ?_) (fun hge => ?_)
  · have hlt2 : (i : Int) < (n : Int) := of_decide_eq_true hlt
    have gi : l[i]? = some (l[i]'(by omega)) := List.getElem?_eq_getElem (by omega)
    generalize l[i]'(by omega) = y at gi
    have hst : (l.take (i + 1)).foldl (putS x) ([], false) = putS x ((l.take i).foldl (putS x) ([], false)) y := by
      rw [List.take_add_one, gi, Option.toList_some, List.foldl_append]; rfl
    generalize hS : (l.take i).foldl (putS x) ([], false) = S at hst hr hfi ⊢
    have hmeas : ((n : Int) - IntKind.wrap .i64 ((i : Int) + 1)).toNat < ((n : Int) - (i : Int)).toNat := by rw [ei i (by omega)]; omega
    -- behind the first push
    have k9 : ∀ (v : World) (A2 : Option Addr) (c2 : Nat) (S1 : List Nm × Bool), Fr (fun _ => False) w1 v → (S1 = if S.2 = false ∧ cmpN x.1 y.1 < 0 then (S.1 ++ [x], true) else S) → S1.1.length ≤ 2 * i + 1 → NRow v w1.heap.size A2 S1.1.length c2 S1.1 →
        F102.k9 (fun v w' => Fr (fun _ => False) w w' ∧ ∃ A' c', v = .slice A' (putN x l).length c' ∧ NRow w' b1 A' (putN x l).length c' (putN x l)) C ((A, n, c), (b1, 0), (A2, S1.1.length, c2), S1.2, (i : Int), ()) v := by
      intro v A2 c2 S1 fv hS1 hlen hrv _
      have hrv := hrv.fr0 (Fr.drew _ _)
      have fv : Fr (fun _ => False) w1 v.drew := fv.trans1 (Fr.drew _ _)
      have hlv := h1.fr0 fv
      refine n_rdS hlv gi rfl ⟨x.1, (r1.fr fv (fun h => h)).cell rfl, ?_⟩
      dsimp only
      rw [neq]
      refine vIf_mk (fun hne => ?_) (fun he => ?_)
      · have hne : ¬ y.1 = x.1 := by simpa using hne
        have hput : putS x S y = (S1.1 ++ [y], S1.2) := by unfold putS; rw [if_neg hne, hS1]
        rw [hput] at hst
        refine n_rd hlv gi rfl (gd_mk rfl (push_n hrv (by have := fv.size; omega) (by omega) (fun A3 c3 w3 hr3 f3 => jnC_mk (hC _ _ ⟨?_, i + 1, A3, c3, by omega, ?_, ?_⟩ hmeas))))
        · exact fr_own fv (fun q hq => (hrv.1.blt hq).1) (Nat.le_refl _) f3
        · rw [hst, ei i (by omega), List.length_append]; rfl
        · rw [hst, List.length_append]; exact hr3
      · have he : y.1 = x.1 := by simpa using he
        have hput : putS x S y = S1 := by unfold putS; rw [if_pos he, hS1]
        rw [hput] at hst
        exact jnC_mk (hC _ _ ⟨fv, i + 1, A2, c2, by omega, by rw [hst, ei i (by omega)], by rw [hst]; exact hrv⟩ hmeas)
    refine vIf_mk (fun hin => ?_) (fun hin => ?_)
    · have hin : S.2 = false := by simpa using hin
      have hrd := hr.fr0 (Fr.drew (fun _ => False) u)
      have fd : Fr (fun _ => False) w1 u.drew := hf.trans1 (Fr.drew _ _)
      refine n_rdS (h1.fr0 fd) gi rfl ⟨x.1, (r1.fr fd (fun h => h)).cell rfl, jnC_mk (fun _ => ?_)⟩
      dsimp only
      rw [gtr_cmp]
      refine vIf_mk (fun hlt' => ?_) (fun hnlt => ?_)
      · have hlt' : cmpN x.1 y.1 < 0 := of_decide_eq_true hlt'
        refine ⟨encN x, rfl, (r1.fr fd (fun h => h)).cells (fun j v hj => by simpa using hj), gd_mk rfl (push_n hrd (by have := fd.size; omega) (by show S.1.length ≤ 1073741824; omega) (fun A3 c3 w3 hr3 f3 => jnC_mk ?_))⟩
        have := k9 w3 A3 c3 (S.1 ++ [x], true) (fr_own fd (fun q hq => (hrd.1.blt hq).1) (Nat.le_refl _) f3) (by rw [if_pos ⟨hin, hlt'⟩]) (by rw [List.length_append]; simp; omega) (by rw [List.length_append]; exact hr3)
        rw [List.length_append] at this
        exact this
      · have hnlt : ¬ cmpN x.1 y.1 < 0 := of_decide_eq_false hnlt
        exact jnC_mk (k9 _ A' c' S fd (by rw [if_neg (fun h => hnlt h.2)]) (by omega) hrd)
    · have hin : S.2 = true := by simpa using hin
      refine jnC_mk (fun _ => vIf_f rfl (jnC_mk (k9 _ A' c' S (hf.trans1 (Fr.drew _ _)) (by rw [if_neg (fun h => by rw [hin] at h; cases h.1)]) (by omega) (hr.fr0 (Fr.drew _ _)))))
  · have hge2 : ¬ (i : Int) < (n : Int) := of_decide_eq_false hge
    have hin : i = n := by omega
    subst hin
    have hput := putS_fold x l [] ha
    rw [List.take_of_length_le (by omega)] at hr hfi ⊢
    generalize l.foldl (putS x) ([], false) = S at hput hr hfi ⊢
    rw [List.nil_append] at hput
    refine vIf_mk (fun hin => ?_) (fun hin => ?_)
    · have hin : S.2 = false := by simpa using hin
      have e : putN x l = S.1 ++ [x] := by rw [← hput]; unfold putE; rw [if_neg (by rw [hin]; decide)]
      refine ⟨encN x, rfl, r1u.cells (fun j v hj => by simpa using hj), gd_mk rfl (push_n hr (by omega) (by show S.1.length ≤ 1073741824; omega) (fun A3 c3 w3 hr3 f3 => ⟨?_, A3, c3, ?_, ?_⟩))⟩
      · exact f1.trans1 (fr_own hf (fun q hq => (hr.1.blt hq).1) (Nat.le_refl _) f3)
      · rw [e, List.length_append]; rfl
      · rw [e, List.length_append]; exact ⟨row_low hs1 hr3.1, hr3.2⟩
    · have hin : S.2 = true := by simpa using hin
      have e : putN x l = S.1 := by rw [← hput]; unfold putE; rw [if_pos hin]
      rw [e]
      exact ⟨f1.trans1 hf, A', c', rfl, row_low hs1 hr.1, hr.2⟩
end Go.Proofs.YtfdhaeglhkmmpaaGreat
/- files' names: name.Disk and the document's -/
namespace Go.Proofs.YtfdhaeglhkmmpaaGreat
open Go.GV Go.RowKit Go.Lib
set_option linter.unusedVariables false
set_option linter.unusedSimpArgs false
theorem nil_iff (s : ByteArray) : (s.toList == (⟨#[]⟩ : ByteArray).toList) = decide (s.size = 0) := by
  rw [ByteArray.toList_eq, ByteArray.toList_eq]
  have h : s.size = s.data.toList.length := by rw [Array.length_toList]; rfl
  rw [h]
  cases hl : s.data.toList with
  | nil => rfl
  | cons a r => simp
def DiskP (s : ByteArray) : Prop := (∀ i, i < s.size → 33 ≤ byteAt s i ∧ byteAt s i ≤ 126 ∧ byteAt s i ≠ 47) ∧ 1 ≤ s.size ∧ s.size ≤ 32
theorem disk_calls (s : ByteArray) (w : World) (hs : s.size ≤ 1099511627775) :
    Calls Tryz.prog 53 #[.string s] w fun e w' => (∃ t, e = .returned (.bool t) ∧ (t = true ↔ DiskP s)) ∧ w' = w := by
  refine (F53.of s w (Q := fun v w' => (∃ t, v = .bool t ∧ (t = true ↔ DiskP s)) ∧ w' = w) ?_).mono (fun e w' ⟨v, he, ⟨t, hv, h⟩, h'⟩ => ⟨⟨t, by rw [he, hv], h⟩, h'⟩)
  have no : ∀ u : World, u = w → ¬ DiskP s → (∃ t, Value.bool false = .bool t ∧ (t = true ↔ DiskP s)) ∧ u = w := fun u hu h => ⟨⟨false, rfl, ⟨(fun h => by cases h), fun h' => absurd h' h⟩⟩, hu⟩
  refine vIf_mk (fun h0 => no w rfl ?_) (fun h0 => vIf_mk (fun h32 => no w rfl ?_) (fun h32 => jnC_mk (fun _ => jnC_mk ?_)))
  · rw [nil_iff] at h0
    have := of_decide_eq_true h0
    intro h
    have := h.2.1
    omega
  · have h32 := of_decide_eq_true h32
    intro h
    have := h.2.2
    omega
  · rw [nil_iff] at h0
    have h0 := of_decide_eq_false h0
    have h32 := of_decide_eq_false h32
    refine loop_rule (fun p v => v = w ∧ ∃ i : Nat, i ≤ s.size ∧ p = (s, (s.size : Int), (i : Int), ()) ∧ ∀ j, j < i → 33 ≤ byteAt s j ∧ byteAt s j ≤ 126 ∧ byteAt s j ≠ 47) (fun p _ => (s.size - p.2.2.1).toNat) ?_ _ _ ⟨rfl, 0, by omega, rfl, fun j hj => by omega⟩
    rintro p v C ⟨rfl, i, hi, rfl, hall⟩ hC _
    refine vIf_mk (fun hlt => ?_) (fun hge => ?_)
    · have hlt2 : (i : Int) < (s.size : Int) := of_decide_eq_true hlt
      refine gd_mk (decide_eq_true (by show (0 : Int) ≤ (i : Int); omega)) (gd_mk hlt (vIf_mk (fun h1 => no v rfl ?_) (fun h1 => vIf_mk (fun h2 => no v rfl ?_) (fun h2 => vIf_mk (fun h3 => no v rfl ?_) (fun h3 => ?_)))))
      · have h1 : byteAt s i < 33 := of_decide_eq_true h1
        intro h; have := h.1 i (by omega); omega
      · have h2 : byteAt s i > 126 := of_decide_eq_true h2
        intro h; have := h.1 i (by omega); omega
      · have h3 : byteAt s i = 47 := by simpa using h3
        intro h; have := h.1 i (by omega); omega
      · have h1 : ¬ byteAt s i < 33 := of_decide_eq_false h1
        have h2 : ¬ byteAt s i > 126 := of_decide_eq_false h2
        have h3 : byteAt s i ≠ 47 := by simpa using h3
        refine jnC_mk (hC _ _ ⟨rfl, i + 1, by omega, by rw [ei i (by omega)], fun j hj => ?_⟩ ?_)
        · by_cases hji : j = i
          · subst hji; exact ⟨by omega, by omega, h3⟩
          · exact hall j (by omega)
        · show ((s.size : Int) - IntKind.wrap .i64 ((i : Int) + 1)).toNat < ((s.size : Int) - (i : Int)).toNat
          rw [ei i (by omega)]; omega
    · have hge2 : ¬ (i : Int) < (s.size : Int) := of_decide_eq_false hge
      exact ⟨⟨true, rfl, ⟨fun _ => ⟨fun j hj => hall j (by omega), by omega, by omega⟩, fun _ => rfl⟩⟩, rfl⟩
theorem rdisk_calls (s : ByteArray) (w : World) (hs : s.size ≤ 1099511627775) :
    Calls Tryz.prog 56 #[.string s] w fun e w' => (∃ t, e = .returned (.bool t) ∧ (t = true ↔ DiskP s)) ∧ w' = w := by
  refine (F56.of s w (Q := fun v w' => (∃ t, v = .bool t ∧ (t = true ↔ DiskP s)) ∧ w' = w) ?_).mono (fun e w' ⟨v, he, ⟨t, hv, h⟩, h'⟩ => ⟨⟨t, by rw [he, hv], h⟩, h'⟩)
  have no : ∀ u : World, u = w → ¬ DiskP s → (∃ t, Value.bool false = .bool t ∧ (t = true ↔ DiskP s)) ∧ u = w := fun u hu h => ⟨⟨false, rfl, ⟨(fun h => by cases h), fun h' => absurd h' h⟩⟩, hu⟩
  refine jnC_mk (loop_rule (fun p v => v = w ∧ ∃ i : Nat, i ≤ s.size ∧ p = (s, (i : Int), ()) ∧ ∀ j, j < i → 33 ≤ byteAt s j ∧ byteAt s j ≤ 126 ∧ byteAt s j ≠ 47) (fun p _ => (s.size - p.2.1).toNat) ?_ _ _ ⟨rfl, 0, by omega, rfl, fun j hj => by omega⟩)
  rintro p v C ⟨rfl, i, hi, rfl, hall⟩ hC _
  refine vIf_mk (fun hlt => ?_) (fun hge => ?_)
  · have hlt2 : (i : Int) < (s.size : Int) := of_decide_eq_true hlt
    have d0 : decide (0 ≤ (i : Int)) = true := decide_eq_true (by omega)
    refine gd_mk d0 (gd_mk hlt (vIf_mk (fun h1 => no v rfl ?_) (fun h1 => gd_mk d0 (gd_mk hlt (vIf_mk (fun h2 => no v rfl ?_) (fun h2 => gd_mk d0 (gd_mk hlt (vIf_mk (fun h3 => no v rfl ?_) (fun h3 => ?_)))))))))
    · have h1 : byteAt s i ≤ 32 := of_decide_eq_true h1
      intro h; have := h.1 i (by omega); omega
    · have h2 : byteAt s i ≥ 127 := of_decide_eq_true h2
      intro h; have := h.1 i (by omega); omega
    · have h3 : byteAt s i = 47 := by simpa using h3
      intro h; have := h.1 i (by omega); omega
    · have h1 : ¬ byteAt s i ≤ 32 := of_decide_eq_false h1
      have h2 : ¬ byteAt s i ≥ 127 := of_decide_eq_false h2
      have h3 : byteAt s i ≠ 47 := by simpa using h3
      refine jnC_mk (hC _ _ ⟨rfl, i + 1, by omega, by rw [ei i (by omega)], fun j hj => ?_⟩ ?_)
      · by_cases hji : j = i
        · subst hji; exact ⟨by omega, by omega, h3⟩
        · exact hall j (by omega)
      · show ((s.size : Int) - IntKind.wrap .i64 ((i : Int) + 1)).toNat < ((s.size : Int) - (i : Int)).toNat
        rw [ei i (by omega)]; omega
  · have hge2 : ¬ (i : Int) < (s.size : Int) := of_decide_eq_false hge
    refine vIf_mk (fun h1 => ⟨⟨_, rfl, ?_⟩, rfl⟩) (fun h1 => no v rfl ?_)
    · have h1 : (s.size : Int) ≥ 1 := of_decide_eq_true h1
      show decide ((s.size : Int) ≤ 32) = true ↔ _
      rw [decide_eq_true_iff]
      exact ⟨fun h => ⟨fun j hj => hall j (by omega), by omega, by omega⟩, fun h => by have := h.2.2; omega⟩
    · have h1 : ¬ (s.size : Int) ≥ 1 := of_decide_eq_false h1
      intro h
      have := h.2.1
      omega
end Go.Proofs.YtfdhaeglhkmmpaaGreat
/- folders (chapter 11): the document's Behind; Now, Find, Crash, Sync, wrong, Do -/
namespace Go.Proofs.YtfdhaeglhkmmpaaGreat
open Go.GV Go.RowKit Go.Lib Go.Stb
set_option linter.unusedVariables false
set_option linter.unusedSimpArgs false
set_option maxHeartbeats 1000000 in
theorem rbeh_calls (cs : List Value) (F : Fo) (n : Int) (w : World) (h : FoAt w cs F) (hb : FoB F) :
    Calls Tryz.prog 81 #[ofL cs, .int .i64 n] w fun e w' => Fr (fun _ => False) w w' ∧ ∃ A' c', e = .returned (.slice A' (behF F n).length c') ∧ NRow w' w.heap.size A' (behF F n).length c' (behF F n) := by
  refine (F81.of cs n w (Q := fun v' w' => Fr (fun _ => False) w w' ∧ ∃ A' c', v' = .slice A' (behF F n).length c' ∧ NRow w' w.heap.size A' (behF F n).length c' (behF F n)) ?_).mono (fun e w' ⟨v, he, hf, A', c', hv, h⟩ => ⟨hf, A', c', by rw [he, hv], h⟩)
  obtain ⟨A, m, c, A', m', c', rfl, hL, hP, hPc⟩ := h
  have hb : F.L.length + F.P.length ≤ 349525 := hb
  have hLl := hL.2
  have hPl := hP.2
  refine nw_mk ?_
  have f1 : Fr (fun _ => False) w (w.alloc (.cells [Value.slice A m c, .slice A' m' c'].toArray 64)) := Fr.alloc _ _ _
  have r1 := RecAt.new w [Value.slice A m c, .slice A' m' c'] 64
  have hs1 : w.heap.size ≤ (w.alloc (.cells [Value.slice A m c, .slice A' m' c'].toArray 64)).heap.size := f1.size
  generalize hb1 : w.heap.size = b1 at r1 hs1 ⊢
  generalize w.alloc (.cells [Value.slice A m c, .slice A' m' c'].toArray 64) = w1 at f1 r1 hs1 ⊢
  refine ⟨A, m, c, r1.cell rfl, jnC_mk ?_⟩
  have hL1 := hL.fr0 f1
  have hP1 := hP.fr0 f1
  refine loop_rule (fun s u => Fr (fun _ => False) w1 u ∧ ∃ (i : Nat) (A2 : Option Addr) (c2 : Nat), i ≤ m ∧ s = (n, (b1, 0), (A2, (lastN (F.L.drop i)).length, c2), ((i : Int) - 1), ()) ∧ NRow u w1.heap.size A2 (lastN (F.L.drop i)).length c2 (lastN (F.L.drop i)))
    (fun s _ => (s.2.2.2.1 + 1).toNat) ?_ _ _ ⟨Fr.refl _ _, m, none, 0, by omega, by rw [List.drop_of_length_le (by omega), i64_id (by omega) (by omega)]; rfl, by rw [List.drop_of_length_le (by omega)]; exact ⟨Row.nil _ _ _ _, rfl⟩⟩
  rintro s u C3 ⟨hf, i, A2, c2, hi, rfl, h2⟩ hC3 _
  have r1u := r1.fr hf (fun h => h)
  refine vIf_mk (fun hge => ?_) (fun hlt => ?_)
  · have hge2 : ((i : Int) - 1) ≥ 0 := of_decide_eq_true hge
    obtain ⟨j, rfl⟩ : ∃ j, i = j + 1 := ⟨i - 1, by omega⟩
    have ej : (((j + 1 : Nat) : Int) - 1) = (j : Int) := by omega
    have gi : F.L[j]? = some (F.L[j]'(by omega)) := List.getElem?_eq_getElem (by omega)
    generalize F.L[j]'(by omega) = x at gi
    have hd : lastN (F.L.drop j) = putN x (lastN (F.L.drop (j + 1))) := by rw [drop_at gi]; rfl
    have hll := lastN_len (F.L.drop (j + 1))
    rw [List.length_drop] at hll
    refine ⟨A, m, c, r1u.cell rfl, n_rd (hL1.fr0 hf) gi ej ((rput_calls A2 _ c2 _ x u h2.sl (lastN_asc _) (by omega)).mono ?_)⟩
    rintro r u2 ⟨f2, A3, c3, rfl, h3⟩
    rw [← hd] at h3 ⊢
    refine ⟨_, _, _, rfl, jnC_mk (hC3 _ _ ⟨hf.trans1 f2, j, A3, c3, by omega, ?_, row_low hf.size h3.1, h3.2⟩ ?_)⟩
    · show (_, _, _, IntKind.wrap .i64 ((((j + 1 : Nat) : Int) - 1) - 1), ()) = _
      rw [ej, i64_id (by omega) (by omega)]
    · show (IntKind.wrap .i64 ((((j + 1 : Nat) : Int) - 1) - 1) + 1).toNat < ((((j + 1 : Nat) : Int) - 1) + 1).toNat
      rw [ej, i64_id (by omega) (by omega)]; omega
  · have hlt2 : ¬ ((i : Int) - 1) ≥ 0 := of_decide_eq_false hlt
    have hi0 : i = 0 := by omega
    subst hi0
    rw [List.drop_zero] at h2 ⊢
    clear hC3
    refine jnC_mk ?_
    refine loop_rule (fun s u => Fr (fun _ => False) w1 u ∧ ∃ (i : Nat) (A2 : Option Addr) (c2 : Nat), i ≤ cnt n F.P ∧ s = (n, (b1, 0), (A2, (behN F.L (F.P.take i)).length, c2), (i : Int), ()) ∧ NRow u w1.heap.size A2 (behN F.L (F.P.take i)).length c2 (behN F.L (F.P.take i)))
      (fun s _ => (F.P.length - s.2.2.2.1).toNat) ?_ _ _ ⟨hf, 0, A2, c2, by omega, rfl, h2⟩
    clear hf h2 r1u
    rintro s u C ⟨hf, i, A3, c3, hi, rfl, h3⟩ hC _
    have hcl := cnt_le n F.P
    have r1u := r1.fr hf (fun h => h)
    have done : i = cnt n F.P → (Fr (fun _ => False) w u ∧ ∃ A' c', Value.slice A3 (behN F.L (F.P.take i)).length c3 = .slice A' (behF F n).length c' ∧ NRow u b1 A' (behF F n).length c' (behF F n)) := by
      intro e
      have e2 : behF F n = behN F.L (F.P.take i) := by unfold behF; rw [e]
      rw [e2]
      exact ⟨f1.trans1 hf, A3, c3, rfl, row_low hs1 h3.1, h3.2⟩
    refine ⟨A', m', c', r1u.cell rfl, vIf_mk (fun hlt => vIf_mk (fun hn => jnC_mk (fun _ => ?_)) (fun hn => ?_)) (fun hge => ?_)⟩
    rotate_left
    · have hlt2 : (i : Int) < (m' : Int) := of_decide_eq_true hlt
      have hn2 : ¬ (i : Int) < n := of_decide_eq_false hn
      refine done ?_
      unfold cnt at hi ⊢
      split at hi
      · rw [if_pos (by assumption)]; omega
      · rw [if_neg (by assumption)]; omega
    · have hge2 : ¬ (i : Int) < (m' : Int) := of_decide_eq_false hge
      exact done (by omega)
    have hlt2 : (i : Int) < (m' : Int) := of_decide_eq_true hlt
    have hn2 : (i : Int) < n := of_decide_eq_true hn
    have gi : F.P[i]? = some (F.P[i]'(by omega)) := List.getElem?_eq_getElem (by omega)
    generalize F.P[i]'(by omega) = x at gi
    have hst := behN_step (L := F.L) gi
    have hasc := behN_asc F.L (F.P.take i)
    have hbl := behN_len F.L (F.P.take i)
    have htl : (F.P.take i).length ≤ F.P.length := by rw [List.length_take]; omega
    have hicnt : i + 1 ≤ cnt n F.P := by unfold cnt; rw [if_neg (by omega)]; omega
    generalize behN F.L (F.P.take i) = l at hst hasc hbl h3 done ⊢
    have next : ∀ (v : World) (A4 : Option Addr) (c4 : Nat), Fr (fun _ => False) w1 v → NRow v w1.heap.size A4 (stepN l x).length c4 (stepN l x) → C (n, (b1, 0), (A4, (stepN l x).length, c4), IntKind.wrap .i64 ((i : Int) + 1), ()) v := by
      intro v A4 c4 fv hv
      refine hC _ _ ⟨fv, i + 1, A4, c4, hicnt, by rw [hst, ei i (by omega)], by rw [hst]; exact hv⟩ ?_
      show ((F.P.length : Int) - IntKind.wrap .i64 ((i : Int) + 1)).toNat < ((F.P.length : Int) - (i : Int)).toNat
      rw [ei i (by omega)]; omega
    refine ⟨A', m', c', r1u.cell rfl, c_rd (hP1.fr0 hf) gi rfl (ch_var (fun b u2 g2 r2 => ⟨x.nm, r2.cell rfl, (rfind_calls A3 _ c3 l x.nm u2 (h3.sl.fr0 g2) (by omega)).mono ?_⟩))⟩
    rintro r u3 ⟨rfl, g3⟩
    have g23 := g2.trans1 g3
    have fv := hf.trans1 g23
    have r3 := r2.fr g3 (fun h => h)
    have h3v := h3.fr0 g23
    refine ⟨_, _, rfl, x.k, r3.cell rfl, vIf_mk (fun hk => ?_) (fun hk => ?_)⟩
    · have hk : x.k = 1 := by simpa using hk
      have e : stepN l x = putN (x.nm, x.id) l := if_pos hk
      refine ⟨x.nm, r3.cell rfl, x.id, r3.cell rfl, (rput_calls A3 _ c3 l (x.nm, x.id) u3 h3v.sl hasc (by omega)).mono ?_⟩
      rintro r u4 ⟨g4, A4, c4, rfl, h4⟩
      rw [← e] at h4 ⊢
      have r4 := r3.fr g4 (fun h => h)
      refine ⟨_, _, _, rfl, jnC_mk (fun _ => ⟨x.k, r4.cell rfl, vIf_f (by rw [hk]; rfl) (jnC_mk (fun _ => vIf_f rfl (jnC_mk (fun _ => ⟨x.k, r4.cell rfl, vIf_f (by rw [hk]; rfl) (jnC_mk (next _ A4 c4 (fv.trans1 g4) ⟨row_low fv.size h4.1, h4.2⟩))⟩))))⟩)⟩
    · have hk : ¬ x.k = 1 := by simpa using hk
      refine jnC_mk (fun _ => ⟨x.k, r3.cell rfl, vIf_mk (fun hk2 => jnC_mk (fun _ => ?_)) (fun hk2 => jnC_mk (fun _ => ?_))⟩)
      · have hk2 : x.k = 2 := by simpa using hk2
        refine vIf_mk (fun hin => ?_) (fun hin => ?_)
        · cases hfd : findN x.nm l with
          | none => rw [hfd] at hin; cases hin
          | some id =>
            have e : stepN l x = putN (x.to, id) (woN x.nm l) := by unfold stepN; rw [if_neg hk, if_pos hk2, hfd]
            have hwl := woN_len x.nm l
            have rd := r3.fr (Fr.drew (fun _ => False) u3) (fun h => h)
            refine ⟨x.nm, rd.cell rfl, x.to, rd.cell rfl, (rwo_calls A3 _ c3 l x.nm u3.drew (h3v.fr0 (Fr.drew _ _)).sl (by omega)).mono ?_⟩
            rintro r u4 ⟨g4, A4, c4, rfl, h4⟩
            have fv4 := (fv.trans1 (Fr.drew _ _)).trans1 g4
            refine ⟨_, _, _, rfl, kp_mk g4 rd.lt (fun h => h) ((rput_calls A4 _ c4 _ (x.to, id) u4 h4.sl (woN_asc _ hasc) (by omega)).mono ?_)⟩
            rintro r u5 ⟨g5, A5, c5, rfl, h5⟩
            rw [← e] at h5 ⊢
            have r5 := (rd.fr g4 (fun h => h)).fr g5 (fun h => h)
            exact ⟨_, _, _, rfl, jnC_mk (fun _ => ⟨x.k, r5.cell rfl, vIf_f (by rw [hk2]; rfl) (jnC_mk (next _ A5 c5 (fv4.trans1 g5) ⟨row_low fv4.size h5.1, h5.2⟩))⟩)⟩
        · cases hfd : findN x.nm l with
          | some id => rw [hfd] at hin; cases hin
          | none =>
            have e : stepN l x = l := by unfold stepN; rw [if_neg hk, if_pos hk2, hfd]
            rw [e] at next
            exact jnC_mk (fun _ => ⟨x.k, r3.cell rfl, vIf_f (by rw [hk2]; rfl) (jnC_mk (next _ A3 c3 fv h3v))⟩)
      · have hk2 : ¬ x.k = 2 := by simpa using hk2
        refine vIf_f rfl (jnC_mk (fun _ => ⟨x.k, r3.cell rfl, vIf_mk (fun hk3 => ?_) (fun hk3 => ?_)⟩))
        · have hk3 : x.k = 3 := by simpa using hk3
          have e : stepN l x = woN x.nm l := by unfold stepN; rw [if_neg hk, if_neg hk2, if_pos hk3]
          refine ⟨x.nm, r3.cell rfl, (rwo_calls A3 _ c3 l x.nm u3 h3v.sl (by omega)).mono ?_⟩
          rintro r u4 ⟨g4, A4, c4, rfl, h4⟩
          rw [← e] at h4 ⊢
          exact ⟨_, _, _, rfl, jnC_mk (next _ A4 c4 (fv.trans1 g4) ⟨row_low fv.size h4.1, h4.2⟩)⟩
        · have hk3 : ¬ x.k = 3 := by simpa using hk3
          have e : stepN l x = l := by unfold stepN; rw [if_neg hk, if_neg hk2, if_neg hk3]
          rw [e] at next
          exact jnC_mk (next _ A3 c3 fv h3v)
end Go.Proofs.YtfdhaeglhkmmpaaGreat
/- folders (chapter 11): Now, Find, Crash, Sync, wrong, Do, and the document's; Names, Same -/
namespace Go.Proofs.YtfdhaeglhkmmpaaGreat
open Go.GV Go.RowKit Go.Lib Go.Stb
set_option linter.unusedVariables false
set_option linter.unusedSimpArgs false
def nowF (F : Fo) : List Nm := behF F (F.P.length : Nat)
theorem nowF_asc (F : Fo) : AscN (nowF F) := behF_asc _ _
theorem nowF_len (F : Fo) : (nowF F).length ≤ F.L.length + F.P.length := behF_len _ _
theorem fo_new {w : World} {cs : List Value} {K : Nat → World → Prop} (hK : ∀ b w', Fr (fun _ => False) w w' → w.heap.size ≤ b → RecAt w' b 64 cs → K b w') : nw w cs 64 K :=
  nw_mk (hK _ _ (Fr.alloc _ _ _) (Nat.le_refl _) (RecAt.new w cs 64))
theorem rec_rd {w : World} {b : Nat} {e : TypeId} {cs : List Value} (h : RecAt w b e cs) : cellsAt w b 0 cs := h.cells (fun j v hj => by simpa using hj)
theorem fo_st {w : World} {b : Nat} {e : TypeId} {cs y : List Value} (h : RecAt w b e cs) (hy : y.length = cs.length) (ho : ∀ v ∈ y, v.oneCell' = true) {K : World → Prop} (hK : ∀ w', Fr (fun k => k = b) w w' → RecAt w' b e y → K w') : st w b 0 y K :=
  h.st_mk (o := 0) (by omega) ho (fun r2 f2 => hK _ f2 (by rw [splice_full hy] at r2; exact r2))
theorem now_calls (cs : List Value) (F : Fo) (w : World) (h : FoAt w cs F) (hb : FoB F) :
    Calls Tryz.prog 50 #[ofL cs] w fun e w' => Fr (fun _ => False) w w' ∧ ∃ A' c', e = .returned (.slice A' (nowF F).length c') ∧ NRow w' w.heap.size A' (nowF F).length c' (nowF F) := by
  refine (F50.of cs w (Q := fun v w' => Fr (fun _ => False) w w' ∧ ∃ A' c', v = .slice A' (nowF F).length c' ∧ NRow w' w.heap.size A' (nowF F).length c' (nowF F)) ?_).mono (fun e w' ⟨v, he, hf, A', c', hv, h⟩ => ⟨hf, A', c', by rw [he, hv], h⟩)
  refine fo_new (fun b w1 f1 _ r1 => ⟨cs, h.len, rec_rd r1, ?_⟩)
  have h1 := h.fr0 f1
  obtain ⟨A, m, c, A', m', c', rfl, hL, hP, hPc⟩ := h
  refine ⟨A', m', c', r1.cell rfl, (beh_calls _ F _ w1 h1 hb).mono ?_⟩
  rintro r w2 ⟨f2, A2, c2, rfl, h2⟩
  have e : behF F ((m' : Nat) : Int) = nowF F := by unfold nowF; rw [hP.2]
  rw [e] at h2 ⊢
  exact ⟨_, _, _, rfl, f1.trans1 f2, A2, c2, rfl, row_low f1.size h2.1, h2.2⟩
theorem rnow_calls (cs : List Value) (F : Fo) (w : World) (h : FoAt w cs F) (hb : FoB F) :
    Calls Tryz.prog 57 #[ofL cs] w fun e w' => Fr (fun _ => False) w w' ∧ ∃ A' c', e = .returned (.slice A' (nowF F).length c') ∧ NRow w' w.heap.size A' (nowF F).length c' (nowF F) := by
  refine (F57.of cs w (Q := fun v w' => Fr (fun _ => False) w w' ∧ ∃ A' c', v = .slice A' (nowF F).length c' ∧ NRow w' w.heap.size A' (nowF F).length c' (nowF F)) ?_).mono (fun e w' ⟨v, he, hf, A', c', hv, h⟩ => ⟨hf, A', c', by rw [he, hv], h⟩)
  refine fo_new (fun b w1 f1 _ r1 => ⟨cs, h.len, rec_rd r1, ?_⟩)
  have h1 := h.fr0 f1
  obtain ⟨A, m, c, A', m', c', rfl, hL, hP, hPc⟩ := h
  refine ⟨A', m', c', r1.cell rfl, (rbeh_calls _ F _ w1 h1 hb).mono ?_⟩
  rintro r w2 ⟨f2, A2, c2, rfl, h2⟩
  have e : behF F ((m' : Nat) : Int) = nowF F := by unfold nowF; rw [hP.2]
  rw [e] at h2 ⊢
  exact ⟨_, _, _, rfl, f1.trans1 f2, A2, c2, rfl, row_low f1.size h2.1, h2.2⟩
theorem find_calls (cs : List Value) (F : Fo) (s : ByteArray) (w : World) (h : FoAt w cs F) (hb : FoB F) :
    Calls Tryz.prog 52 #[ofL cs, .string s] w fun e w' => e = .returned (.tuple #[.int .i64 ((findN s (nowF F)).getD 0), .bool (findN s (nowF F)).isSome]) ∧ Fr (fun _ => False) w w' := by
  refine (F52.of cs s w (Q := fun v w' => v = .tuple #[.int .i64 ((findN s (nowF F)).getD 0), .bool (findN s (nowF F)).isSome] ∧ Fr (fun _ => False) w w') ?_).mono (fun e w' ⟨v, he, hv, h⟩ => ⟨by rw [he, hv], h⟩)
  have hnl := nowF_len F
  have hb' : F.L.length + F.P.length ≤ 349525 := hb
  refine fo_new (fun b w1 f1 _ r1 => ⟨cs, h.len, rec_rd r1, (now_calls cs F w1 (h.fr0 f1) hb).mono ?_⟩)
  rintro r w2 ⟨f2, A2, c2, rfl, h2⟩
  refine ⟨_, _, _, rfl, (bsN_calls A2 _ c2 _ s w2 h2.sl (nowF_asc F) (by omega)).mono ?_⟩
  rintro r w3 ⟨f3, i, rfl, hp⟩
  have f := (f1.trans1 f2).trans1 f3
  refine ⟨_, _, rfl, vIf_mk (fun hi => ?_) (fun hi => ?_)⟩
  · have hi : isN s i (nowF F) = false := by simpa using hi
    rw [(wo_out hp (nowF_asc F) hi).2]
    exact ⟨rfl, f⟩
  · have hi : isN s i (nowF F) = true := by simpa using hi
    obtain ⟨x, hx, hs⟩ := isN_at hi
    refine n_rdI (h2.sl.fr0 f3) hx rfl ?_
    rw [find_in hp hx hs]
    exact ⟨rfl, f⟩
theorem rfindF_calls (cs : List Value) (F : Fo) (s : ByteArray) (w : World) (h : FoAt w cs F) (hb : FoB F) :
    Calls Tryz.prog 55 #[ofL cs, .string s] w fun e w' => e = .returned (.tuple #[.int .i64 ((findN s (nowF F)).getD 0), .bool (findN s (nowF F)).isSome]) ∧ Fr (fun _ => False) w w' := by
  refine (F55.of cs s w (Q := fun v w' => v = .tuple #[.int .i64 ((findN s (nowF F)).getD 0), .bool (findN s (nowF F)).isSome] ∧ Fr (fun _ => False) w w') ?_).mono (fun e w' ⟨v, he, hv, h⟩ => ⟨by rw [he, hv], h⟩)
  have hnl := nowF_len F
  have hb' : F.L.length + F.P.length ≤ 349525 := hb
  refine fo_new (fun b w1 f1 _ r1 => ⟨cs, h.len, rec_rd r1, (rnow_calls cs F w1 (h.fr0 f1) hb).mono ?_⟩)
  rintro r w2 ⟨f2, A2, c2, rfl, h2⟩
  refine ⟨_, _, _, rfl, (rfind_calls A2 _ c2 _ s w2 h2.sl (by omega)).mono ?_⟩
  rintro r w3 ⟨rfl, f3⟩
  exact ⟨_, _, rfl, rfl, (f1.trans1 f2).trans1 f3⟩
theorem oneP {A A' : Option Addr} {n c n' c' : Nat} : ∀ v ∈ [Value.slice A n c] ++ ([Value.slice A' n' c'] ++ []), v.oneCell' = true := by
  intro v hv
  simp at hv
  rcases hv with rfl | rfl <;> rfl
theorem fo_of {w : World} {B : Nat} {A : Option Addr} {c : Nat} {l : List Nm} (h : NRow w B A l.length c l) : FoAt w [.slice A l.length c, .slice none 0 0] ⟨l, []⟩ :=
  ⟨A, _, c, none, 0, 0, rfl, h.sl, ⟨Sl.nil _ _ _, rfl⟩, Nat.le_refl _⟩
theorem crash_calls (cs : List Value) (F : Fo) (n : Int) (w : World) (h : FoAt w cs F) (hb : FoB F) :
    Calls Tryz.prog 33 #[ofL cs, .int .i64 n] w fun e w' => Fr (fun _ => False) w w' ∧ ∃ cs', e = .returned (ofL cs') ∧ FoAt w' cs' ⟨behF F n, []⟩ := by
  refine (F33.of cs n w (Q := fun v w' => Fr (fun _ => False) w w' ∧ ∃ cs', v = ofL cs' ∧ FoAt w' cs' ⟨behF F n, []⟩) ?_).mono (fun e w' ⟨v, he, hf, cs', hv, h⟩ => ⟨hf, cs', by rw [he, hv], h⟩)
  refine fo_new (fun b w1 f1 _ r1 => fo_new (fun b3 w2 f2 hb3 r3 => ⟨cs, h.len, rec_rd (r1.fr f2 (fun h => h)), (beh_calls cs F n w2 (h.fr0 (f1.trans1 f2)) hb).mono ?_⟩))
  rintro r w3 ⟨f3, A3, c3, rfl, h3⟩
  have hs1 := f1.size
  have hs2 := f2.size
  have hlt := r3.lt
  refine ⟨_, _, _, rfl, gd_mk rfl (fo_st (r3.fr f3 (fun h => h)) (by rfl) oneP (fun w4 f4 r4 => ⟨_, rfl, rec_rd r4, ?_, _, rfl, ?_⟩))⟩
  · exact ((f1.trans1 f2).trans1 f3).trans f4 (fun _ _ h => h) (fun k hk h => by omega)
  · exact fo_of (B := w2.heap.size) ⟨f4.row h3.1 (fun k hk h => by have := (h3.1.blt hk).1; omega), h3.2⟩
theorem sync_calls (cs : List Value) (F : Fo) (w : World) (h : FoAt w cs F) (hb : FoB F) :
    Calls Tryz.prog 46 #[ofL cs] w fun e w' => Fr (fun _ => False) w w' ∧ ∃ cs', e = .returned (ofL cs') ∧ FoAt w' cs' ⟨nowF F, []⟩ := by
  refine (F46.of cs w (Q := fun v w' => Fr (fun _ => False) w w' ∧ ∃ cs', v = ofL cs' ∧ FoAt w' cs' ⟨nowF F, []⟩) ?_).mono (fun e w' ⟨v, he, hf, cs', hv, h⟩ => ⟨hf, cs', by rw [he, hv], h⟩)
  refine fo_new (fun b w1 f1 _ r1 => fo_new (fun b3 w2 f2 hb3 r3 => ⟨cs, h.len, rec_rd (r1.fr f2 (fun h => h)), (now_calls cs F w2 (h.fr0 (f1.trans1 f2)) hb).mono ?_⟩))
  rintro r w3 ⟨f3, A3, c3, rfl, h3⟩
  have hs1 := f1.size
  have hs2 := f2.size
  have hlt := r3.lt
  refine ⟨_, _, _, rfl, gd_mk rfl (fo_st (r3.fr f3 (fun h => h)) (by rfl) oneP (fun w4 f4 r4 => ⟨_, rfl, rec_rd r4, ?_, _, rfl, ?_⟩))⟩
  · exact ((f1.trans1 f2).trans1 f3).trans f4 (fun _ _ h => h) (fun k hk h => by omega)
  · exact fo_of (B := w2.heap.size) ⟨f4.row h3.1 (fun k hk h => by have := (h3.1.blt hk).1; omega), h3.2⟩
/-! ### Do -/
open Classical in
noncomputable def wrongF (F : Fo) (c : Ch) : Int :=
  if c.k = 1 then (if ¬ DiskP c.nm then 12 else if (findN c.nm (nowF F)).isSome = true then 7 else 0)
  else if c.k = 2 then (if (findN c.nm (nowF F)).isSome = true then (if ¬ DiskP c.to then 12 else 0) else 6)
  else if c.k = 3 then (if (findN c.nm (nowF F)).isSome = true then 0 else 6) else 2
noncomputable def doF (F : Fo) (c : Ch) : Fo := if wrongF F c = 0 then ⟨F.L, F.P ++ [c]⟩ else F
def ChB (c : Ch) : Prop := c.nm.size ≤ 1099511627775 ∧ c.to.size ≤ 1099511627775
theorem ch_new {w : World} {cs : List Value} {K : Nat → World → Prop} (hK : ∀ b w', Fr (fun _ => False) w w' → w.heap.size ≤ b → RecAt w' b 82 cs → K b w') : nw w cs 82 K :=
  nw_mk (hK _ _ (Fr.alloc _ _ _) (Nat.le_refl _) (RecAt.new w cs 82))
theorem wrong_calls (cs : List Value) (F : Fo) (x : Ch) (w : World) (h : FoAt w cs F) (hb : FoB F) (hx : ChB x) :
    Calls Tryz.prog 96 #[ofL cs, ofL (encC x)] w fun e w' => e = .returned (.int .i64 (wrongF F x)) ∧ Fr (fun _ => False) w w' := by
  refine (F96.of cs _ w (Q := fun v w' => v = .int .i64 (wrongF F x) ∧ Fr (fun _ => False) w w') ?_).mono (fun e w' ⟨v, he, hv, h⟩ => ⟨by rw [he, hv], h⟩)
  refine fo_new (fun b w1 f1 _ r1 => ch_new (fun b3 w2 f2 hb3 r3 => ⟨cs, h.len, rec_rd (r1.fr f2 (fun h => h)), x.nm, r3.cell rfl, (find_calls cs F x.nm w2 (h.fr0 (f1.trans1 f2)) hb).mono ?_⟩))
  rintro r w3 ⟨rfl, f3⟩
  have f := (f1.trans1 f2).trans1 f3
  have r3 := r3.fr f3 (fun h => h)
  have fin : ∀ (t : Bool) (w' : World), Fr (fun _ => False) w w' → t = (findN x.nm (nowF F)).isSome → (wrongF F x = if t = true then 0 else 6) → jnC (F96.k13 (fun v w' => v = .int .i64 (wrongF F x) ∧ Fr (fun _ => False) w w')) (t, ()) w' := by
    intro t w' f' ht he
    refine jnC_mk (fun _ => vIf_mk (fun h1 => ⟨?_, f'⟩) (fun h1 => ⟨?_, f'⟩))
    · have h1 : t = false := by simpa using h1
      rw [he, h1]; rfl
    · have h1 : t = true := by simpa using h1
      rw [he, h1]; rfl
  refine ⟨_, _, rfl, x.k, r3.cell rfl, vIf_mk (fun hk => ?_) (fun hk => vIf_mk (fun hk2 => vIf_mk (fun hin => ?_) (fun hin => ?_)) (fun hk2 => vIf_mk (fun hk3 => ?_) (fun hk3 => ?_)))⟩
  · have hk : x.k = 1 := by simpa using hk
    refine ⟨x.nm, r3.cell rfl, (disk_calls x.nm w3 hx.1).mono ?_⟩
    rintro r w4 ⟨⟨t, rfl, ht⟩, rfl⟩
    refine ⟨_, rfl, vIf_mk (fun h1 => ⟨?_, f⟩) (fun h1 => vIf_mk (fun h2 => ⟨?_, f⟩) (fun h2 => ⟨?_, f⟩))⟩
    · have h1 : t = false := by simpa using h1
      unfold wrongF
      rw [if_pos hk, if_pos (fun h => by rw [ht.2 h] at h1; cases h1)]
    · have h1 : t = true := by simpa using h1
      unfold wrongF
      rw [if_pos hk, if_neg (not_not_intro (ht.1 h1)), if_pos h2]
    · have h1 : t = true := by simpa using h1
      unfold wrongF
      rw [if_pos hk, if_neg (not_not_intro (ht.1 h1)), if_neg (by rw [h2]; decide)]
  · have hk : ¬ x.k = 1 := by simpa using hk
    have hk2 : x.k = 2 := by simpa using hk2
    refine ⟨x.to, r3.cell rfl, (disk_calls x.to w3 hx.2).mono ?_⟩
    rintro r w4 ⟨⟨t, rfl, ht⟩, rfl⟩
    refine ⟨_, rfl, vIf_mk (fun h1 => ⟨?_, f⟩) (fun h1 => fin _ _ f rfl ?_)⟩
    · have h1 : t = false := by simpa using h1
      unfold wrongF
      rw [if_neg hk, if_pos hk2, if_pos hin, if_pos (fun h => by rw [ht.2 h] at h1; cases h1)]
    · have h1 : t = true := by simpa using h1
      unfold wrongF
      rw [if_neg hk, if_pos hk2, if_pos hin, if_neg (not_not_intro (ht.1 h1)), if_pos hin]
  · have hk : ¬ x.k = 1 := by simpa using hk
    have hk2 : x.k = 2 := by simpa using hk2
    refine fin _ _ f rfl ?_
    unfold wrongF
    rw [if_neg hk, if_pos hk2, if_neg (by rw [hin]; decide), if_neg (by rw [hin]; decide)]
  · have hk : ¬ x.k = 1 := by simpa using hk
    have hk2 : ¬ x.k = 2 := by simpa using hk2
    have hk3 : x.k = 3 := by simpa using hk3
    refine fin _ _ f rfl ?_
    unfold wrongF
    rw [if_neg hk, if_neg hk2, if_pos hk3]
  · have hk : ¬ x.k = 1 := by simpa using hk
    have hk2 : ¬ x.k = 2 := by simpa using hk2
    have hk3 : ¬ x.k = 3 := by simpa using hk3
    refine ⟨?_, f⟩
    unfold wrongF
    rw [if_neg hk, if_neg hk2, if_neg hk3]
/-- a change pushed -/
theorem push_c {w : World} {B : Nat} {A : Option Addr} {n c b : Nat} {P : List Ch} {x : Ch} {K : Option Addr → Nat → Nat → World → Prop} (hr : Row w B 82 4 A n c (flt encC P)) (hl : P.length = n) (rb : RecAt w b 82 (encC x)) (hB : B ≤ w.heap.size) (hn : n ≤ 1073741824)
    (hK : ∀ A' c' w', n + 1 ≤ c' → CSl w' A' (n + 1) (P ++ [x]) → Fr (fun k => blkOf A = some k) w w' → (∀ k, blkOf A' = some k → B ≤ k) → K A' (n + 1) c' w') : app w 4 48 Z82 82 A n c (.slice (some ⟨b, 0, none⟩) 1 1) K := by
  refine app_row (us := encC x) (m := 1) hr ⟨rfl, rfl, fun _ => dr_mk (rec_rd rb)⟩ (encC_o.one x) rfl (by omega) (by omega) hB (fun A' c' w' hr' f' => hK A' c' w' hr'.le ⟨?_, by rw [List.length_append, hl]; rfl⟩ f' (fun k hk => (hr'.blt hk).1))
  rw [flt_app, flt_one]; exact hr'.sl
set_option maxHeartbeats 1000000 in
theorem do_calls (cs : List Value) (F : Fo) (x : Ch) (w : World) (h : FoAt w cs F) (hb : FoB F) (hx : ChB x) :
    Calls Tryz.prog 74 #[ofL cs, ofL (encC x)] w fun e w' => Fr (fun _ => False) w w' ∧ ∃ cs', e = .returned (.tuple #[ofL cs', .int .i64 (wrongF F x)]) ∧ FoAt w' cs' (doF F x) := by
  refine (F74.of cs _ w (Q := fun v w' => Fr (fun _ => False) w w' ∧ ∃ cs', v = .tuple #[ofL cs', .int .i64 (wrongF F x)] ∧ FoAt w' cs' (doF F x)) ?_).mono (fun e w' ⟨v, he, hf, cs', hv, h⟩ => ⟨hf, cs', by rw [he, hv], h⟩)
  have hb' : F.L.length + F.P.length ≤ 349525 := hb
  refine fo_new (fun b1 w1 f1 _ r1 => ch_new (fun b3 w2 f2 hb3 r3 => fo_new (fun b5 w3 f3 hb5 r5 => ⟨cs, h.len, rec_rd ((r1.fr f2 (fun h => h)).fr f3 (fun h => h)), encC x, rfl, rec_rd (r3.fr f3 (fun h => h)), ?_⟩)))
  have g := (f1.trans1 f2).trans1 f3
  have r1 := (r1.fr f2 (fun h => h)).fr f3 (fun h => h)
  have r3 := r3.fr f3 (fun h => h)
  have hw5 : w.heap.size ≤ b5 := Nat.le_trans (Nat.le_trans f1.size f2.size) hb5
  have hlt3 := (r3.lt)
  refine (wrong_calls cs F x w3 (h.fr0 g) hb hx).mono ?_
  rintro r w4 ⟨rfl, f4⟩
  have g := g.trans1 f4
  have r1 := r1.fr f4 (fun h => h)
  have r3 := r3.fr f4 (fun h => h)
  have r5 := r5.fr f4 (fun h => h)
  have hs4 := f4.size
  refine ⟨_, rfl, vIf_mk (fun h0 => ?_) (fun h0 => ?_)⟩
  · have h0 : ¬ wrongF F x = 0 := by simpa using h0
    have e : doF F x = F := if_neg h0
    rw [e]
    refine ⟨cs, h.len, rec_rd r1, gd_mk (by rw [h.len]; rfl) (fo_st r5 h.len h.one (fun w5 f5 r5' => ⟨cs, h.len, rec_rd r5', ?_, cs, rfl, ?_⟩))⟩
    · exact g.trans f5 (fun _ _ h => h) (fun k hk h => by omega)
    · exact h.fr0 (g.trans f5 (fun _ _ h => h) (fun k hk h => by omega))
  · have h0 : wrongF F x = 0 := by simpa using h0
    have e : doF F x = ⟨F.L, F.P ++ [x]⟩ := if_pos h0
    rw [e, h0]
    obtain ⟨A, n, c, A', n', c', rfl, hL, hP, hPc⟩ := h
    have hPl := hP.2
    have fd := Fr.drew (fun _ => False) w4
    have g := g.trans1 fd
    have r1 := r1.fr fd (fun h => h)
    have r3 := r3.fr fd (fun h => h)
    have r5 := r5.fr fd (fun h => h)
    have hsd : w4.drew.heap.size = w4.heap.size := rfl
    have b1l := r1.lt
    have b3l := r3.lt
    have b5l := r5.lt
    -- the end
    have fin : ∀ (u : World) (A2 : Option Addr) (n2 c2 : Nat), Fr (fun _ => False) w4.drew u → n2 ≤ c2 → CSl u A2 n2 (F.P ++ [x]) → (∀ k, blkOf A2 = some k → k ≠ b5) →
        kp w4.drew b1 0 1 u (gd (([Value.slice A n c] ++ ([Value.slice A2 n2 c2] ++ [])).length == 2) (st u b5 0 ([Value.slice A n c] ++ ([Value.slice A2 n2 c2] ++ [])) fun w46 => ldA 2 w46 b5 0 fun a47 => Fr (fun _ => False) w w46 ∧ ∃ cs', Value.tuple #[ofL a47, Value.int .i64 0] = .tuple #[ofL cs', .int .i64 0] ∧ FoAt w46 cs' ⟨F.L, F.P ++ [x]⟩)) := by
      intro u A2 n2 c2 fu hle hs hne
      refine kp_mk fu b1l (fun h => h) (gd_mk rfl (fo_st (r5.fr fu (fun h => h)) (by rfl) oneP (fun w5 f5 r5' => ⟨_, rfl, rec_rd r5', ?_, _, rfl, A, n, c, A2, n2, c2, rfl, ?_, ?_, hle⟩)))
      · exact (g.trans1 fu).trans f5 (fun _ _ h => h) (fun k hk h => by omega)
      · exact hL.fr0 ((g.trans1 fu).trans f5 (fun _ _ h => h) (fun k hk h => by omega))
      · exact ⟨f5.sl hs.1 (fun _ k hk h => hne k hk h), hs.2⟩
    refine ⟨A, n, c, r1.cell rfl, A', n', c', r1.cell rfl, encC x, rfl, rec_rd r3, ?_, ?_⟩
    · refine (ClnCh.clone_calls A' n' c' _ w4.drew (hP.fr0 g).1 (encC_o.fo _) (by omega)).mono ?_
      rintro r u1 ⟨q1, A2, c2, rfl, h2⟩
      refine ⟨_, _, _, rfl, kp_mk q1 b3l (fun h => h) (kp_mk q1 b1l (fun h => h) (gd_mk rfl (nw_mk ?_)))⟩
      rw [List.append_nil]
      have q2 : Fr (fun _ => False) u1 (u1.alloc (.cells (encC x).toArray 82)) := Fr.alloc _ _ _
      have s2 := RecAt.new u1 (encC x) 82
      generalize u1.heap.size = b27 at s2 ⊢
      generalize u1.alloc (.cells (encC x).toArray 82) = u2 at q2 s2 ⊢
      have q12 := q1.trans1 q2
      refine kp_mk q12 b1l (fun h => h) (kp_mk q12 b1l (fun h => h) (push_c (q2.row h2 (fun _ _ h => h)) hPl s2 (by have := q12.size; omega) (by omega) (fun A3 c3 u3 hle3 h3 q3 hB3 => ?_)))
      exact fin u3 A3 _ c3 (fr_own q12 (fun k hk => (h2.blt hk).1) (Nat.le_refl _) q3) hle3 h3 (fun k hk h => by have := hB3 k hk; omega)
    · refine gd_mk rfl (nw_mk ?_)
      rw [List.append_nil]
      have q1 : Fr (fun _ => False) w4.drew (w4.drew.alloc (.cells (encC x).toArray 82)) := Fr.alloc _ _ _
      have s1 := RecAt.new w4.drew (encC x) 82
      have hq1 : w4.drew.heap.size < (w4.drew.alloc (.cells (encC x).toArray 82)).heap.size := by rw [alloc_size]; omega
      generalize hb35 : w4.drew.heap.size = b35 at s1 hq1 ⊢
      generalize w4.drew.alloc (.cells (encC x).toArray 82) = u1 at q1 s1 hq1 ⊢
      refine kp_mk q1 b1l (fun h => h) (kp_mk q1 b1l (fun h => h) ((ClnCh.clone_calls A' n' c' _ u1 ((hP.fr0 g).fr0 q1).1 (encC_o.fo _) (by omega)).mono ?_))
      rintro r u2 ⟨q2, A2, c2, rfl, h2⟩
      have q12 := q1.trans1 q2
      refine ⟨_, _, _, rfl, kp_mk q12 b3l (fun h => h) (kp_mk q12 b1l (fun h => h) (push_c h2 hPl (s1.fr q2 (fun h => h)) q2.size (by omega) (fun A3 c3 u3 hle3 h3 q3 hB3 => ?_)))⟩
      exact fin u3 A3 _ c3 (fr_own q12 (fun k hk => (h2.blt hk).1) (by omega) q3) hle3 h3 (fun k hk h => by have := hB3 k hk; omega)
end Go.Proofs.YtfdhaeglhkmmpaaGreat
/- folders (chapter 11): the document's Do; Names, Same -/
namespace Go.Proofs.YtfdhaeglhkmmpaaGreat
open Go.GV Go.RowKit Go.Lib Go.Stb
set_option linter.unusedVariables false
set_option linter.unusedSimpArgs false
set_option maxHeartbeats 2000000 in
theorem rdo_calls (cs : List Value) (F : Fo) (x : Ch) (w : World) (h : FoAt w cs F) (hb : FoB F) (hx : ChB x) :
    Calls Tryz.prog 104 #[ofL cs, ofL (encC x)] w fun e w' => Fr (fun _ => False) w w' ∧ ∃ cs', e = .returned (.tuple #[ofL cs', .int .i64 (wrongF F x)]) ∧ FoAt w' cs' (doF F x) := by
  refine (F104.of cs _ w (Q := fun v w' => Fr (fun _ => False) w w' ∧ ∃ cs', v = .tuple #[ofL cs', .int .i64 (wrongF F x)] ∧ FoAt w' cs' (doF F x)) ?_).mono (fun e w' ⟨v, he, hf, cs', hv, h⟩ => ⟨hf, cs', by rw [he, hv], h⟩)
  have hb' : F.L.length + F.P.length ≤ 349525 := hb
  refine fo_new (fun b1 w1 f1 _ r1 => ch_new (fun b3 w2 f2 hb3 r3 => fo_new (fun b5 w3 f3 hb5 r5 => ⟨cs, h.len, rec_rd ((r1.fr f2 (fun h => h)).fr f3 (fun h => h)), x.nm, (r3.fr f3 (fun h => h)).cell rfl, ?_⟩)))
  have g := (f1.trans1 f2).trans1 f3
  have r1 := (r1.fr f2 (fun h => h)).fr f3 (fun h => h)
  have r3 := r3.fr f3 (fun h => h)
  have hw5 : w.heap.size ≤ b5 := Nat.le_trans (Nat.le_trans f1.size f2.size) hb5
  refine (rfindF_calls cs F x.nm w3 (h.fr0 g) hb).mono ?_
  rintro r w4 ⟨rfl, f4⟩
  have g := g.trans1 f4
  have r1 := r1.fr f4 (fun h => h)
  have r3 := r3.fr f4 (fun h => h)
  have r5 := r5.fr f4 (fun h => h)
  generalize hin : (findN x.nm (nowF F)).isSome = t
  -- an error
  have bad : ∀ (k : Int), wrongF F x = k → k ≠ 0 → ∃ a : List Value, a.length = 2 ∧ cellsAt w4 b1 0 a ∧ gd (a.length == 2) (st w4 b5 0 a fun w15 => ldA 2 w15 b5 0 fun a16 => Fr (fun _ => False) w w15 ∧ ∃ cs', Value.tuple #[ofL a16, Value.int .i64 k] = .tuple #[ofL cs', .int .i64 (wrongF F x)] ∧ FoAt w15 cs' (doF F x)) := by
    intro k hk h0
    have e : doF F x = F := if_neg (by rw [hk]; exact h0)
    rw [e, hk]
    refine ⟨cs, h.len, rec_rd r1, gd_mk (by rw [h.len]; rfl) (fo_st r5 h.len h.one (fun w5 f5 r5' => ⟨cs, h.len, rec_rd r5', ?_, cs, rfl, ?_⟩))⟩
    · exact g.trans f5 (fun _ _ h => h) (fun k hk h => by omega)
    · exact h.fr0 (g.trans f5 (fun _ _ h => h) (fun k hk h => by omega))
  -- all is well
  have good : wrongF F x = 0 → F104.k12 (fun v w' => Fr (fun _ => False) w w' ∧ ∃ cs', v = .tuple #[ofL cs', .int .i64 (wrongF F x)] ∧ FoAt w' cs' (doF F x)) ((b1, 0), (b3, 0), (b5, 0), ()) w4 := by
    intro h0 _
    have e : doF F x = ⟨F.L, F.P ++ [x]⟩ := if_pos h0
    rw [e, h0]
    obtain ⟨A, n, c, A', n', c', rfl, hL, hP, hPc⟩ := h
    have hPl := hP.2
    have b1l := r1.lt
    have b3l := r3.lt
    have b5l := r5.lt
    refine ⟨A', n', c', r1.cell rfl, app_row (us := flt encC F.P) (m := n') (old := []) (B := w4.heap.size) (Row.nil _ _ _ _) (hP.fr0 g).1.src (encC_o.fo _) rfl (by omega) (by omega) (Nat.le_refl _) (fun A2 c2 u1 h2 q1 => ?_)⟩
    rw [List.nil_append, Nat.zero_add] at h2
    rw [Nat.zero_add]
    have q1 : Fr (fun _ => False) w4 u1 := q1.mono (fun k _ h => by cases h)
    have qd := q1.trans1 (Fr.drew _ u1)
    have r1d := r1.fr qd (fun h => h)
    have r3d := r3.fr qd (fun h => h)
    refine ⟨A, n, c, r1d.cell rfl, encC x, rfl, rec_rd r3d, gd_mk rfl (nw_mk ?_)⟩
    rw [List.append_nil]
    have q2 : Fr (fun _ => False) u1.drew (u1.drew.alloc (.cells (encC x).toArray 82)) := Fr.alloc _ _ _
    have s2 := RecAt.new u1.drew (encC x) 82
    have h2d := (Fr.drew (fun _ => False) u1).row h2 (fun _ _ h => h)
    generalize u1.drew.heap.size = b27 at s2 ⊢
    generalize u1.drew.alloc (.cells (encC x).toArray 82) = u2 at q2 s2 ⊢
    have q12 := qd.trans1 q2
    refine kp_mk q2 r1d.lt (fun h => h) (push_c (q2.row h2d (fun _ _ h => h)) hPl s2 (by have := q12.size; omega) (by omega) (fun A3 c3 u3 hle3 h3 q3 hB3 => ?_))
    have q23 : Fr (fun _ => False) w4 u3 := fr_own q12 (fun k hk => (h2.blt hk).1) (Nat.le_refl _) q3
    refine kp_mk (S := fun k => blkOf A2 = some k) ((q2.mono (fun _ _ h => h.elim)).trans1 q3) r1d.lt (fun h => by have h5 : w4.heap.size ≤ b1 := (h2.blt h).1; omega) (gd_mk rfl (fo_st (r5.fr q23 (fun h => h)) (by rfl) oneP (fun w5 f5 r5' => ⟨_, rfl, rec_rd r5', ?_, _, rfl, A, n, c, A3, _, c3, rfl, ?_, ?_, hle3⟩)))
    · exact (g.trans1 q23).trans f5 (fun _ _ h => h) (fun k hk h => by omega)
    · exact hL.fr0 ((g.trans1 q23).trans f5 (fun _ _ h => h) (fun k hk h => by omega))
    · exact ⟨f5.sl h3.1 (fun _ k hk h => by have := hB3 k hk; omega), h3.2⟩
  have k3 : ∀ t3 : Bool, (t3 = true ↔ x.k < 1 ∨ x.k > 3) → jnC (F104.k3 (fun v w' => Fr (fun _ => False) w w' ∧ ∃ cs', v = .tuple #[ofL cs', .int .i64 (wrongF F x)] ∧ FoAt w' cs' (doF F x))) ((b1, 0), (b3, 0), (b5, 0), t, t3, ()) w4 := by
    intro t3 h3
    refine jnC_mk (fun _ => vIf_mk (fun h => ?_) (fun h => jnC_mk (fun _ => ?_)))
    · have h : t3 = true := h
      have h' := h3.1 h
      refine bad 2 ?_ (by decide)
      unfold wrongF
      rw [if_neg (by omega), if_neg (by omega), if_neg (by omega)]
    have h : t3 = false := h
    have hr : 1 ≤ x.k ∧ x.k ≤ 3 := by
      have : ¬ (x.k < 1 ∨ x.k > 3) := fun h' => by rw [h3.2 h'] at h; cases h
      omega
    refine ⟨x.k, r3.cell rfl, vIf_mk (fun hk => ?_) (fun hk => ?_)⟩
    · have hk : x.k = 1 := by simpa using hk
      refine ⟨x.nm, r3.cell rfl, (rdisk_calls x.nm w4 hx.1).mono ?_⟩
      rintro r w5 ⟨⟨td, rfl, htd⟩, rfl⟩
      refine ⟨_, rfl, jnC_mk (fun _ => vIf_mk (fun h1 => ?_) (fun h1 => jnC_mk (fun _ => ⟨x.k, r3.cell rfl, vIf_t (by rw [hk]; rfl) (jnC_mk (fun _ => vIf_mk (fun h2 => ?_) (fun h2 => ?_)))⟩)))⟩
      · have h1 : td = false := by simpa using h1
        refine bad 12 ?_ (by decide)
        unfold wrongF
        rw [if_pos hk, if_pos (fun h => by rw [htd.2 h] at h1; cases h1)]
      · have h1 : td = true := by simpa using h1
        have h2 : t = true := h2
        refine bad 7 ?_ (by decide)
        unfold wrongF
        rw [if_pos hk, if_neg (not_not_intro (htd.1 h1)), hin, if_pos h2]
      · have h1 : td = true := by simpa using h1
        have h2 : t = false := h2
        refine jnC_mk (fun _ => ⟨x.k, r3.cell rfl, vIf_f (decide_eq_false (by omega)) (jnC_mk (fun _ => vIf_f rfl (jnC_mk (fun _ => ⟨x.k, r3.cell rfl, vIf_f (by rw [hk]; rfl) (jnC_mk (fun _ => vIf_f rfl (jnC_mk (good ?_))))⟩))))⟩)
        unfold wrongF
        rw [if_pos hk, if_neg (not_not_intro (htd.1 h1)), hin, if_neg (by rw [h2]; decide)]
    · have hk : ¬ x.k = 1 := by simpa using hk
      refine jnC_mk (fun _ => vIf_f rfl (jnC_mk (fun _ => ⟨x.k, r3.cell rfl, vIf_f (by simpa using hk) ?_⟩)))
      refine jnC_mk (fun _ => vIf_f rfl (jnC_mk (fun _ => ⟨x.k, r3.cell rfl, vIf_t (decide_eq_true (by omega)) ?_⟩)))
      refine jnC_mk (fun _ => vIf_mk (fun h1 => ?_) (fun h1 => jnC_mk (fun _ => ⟨x.k, r3.cell rfl, vIf_mk (fun hk2 => ?_) (fun hk2 => ?_)⟩)))
      · have h1 : t = false := by simpa using h1
        refine bad 6 ?_ (by decide)
        unfold wrongF
        by_cases hk2 : x.k = 2
        · rw [if_neg hk, if_pos hk2, hin, if_neg (by rw [h1]; decide)]
        · rw [if_neg hk, if_neg hk2, if_pos (by omega), hin, if_neg (by rw [h1]; decide)]
      · have h1 : t = true := by simpa using h1
        have hk2 : x.k = 2 := by simpa using hk2
        refine ⟨x.to, r3.cell rfl, (rdisk_calls x.to w4 hx.2).mono ?_⟩
        rintro r w5 ⟨⟨td, rfl, htd⟩, rfl⟩
        refine ⟨_, rfl, jnC_mk (fun _ => vIf_mk (fun h2 => ?_) (fun h2 => jnC_mk (good ?_)))⟩
        · have h2 : td = false := by simpa using h2
          refine bad 12 ?_ (by decide)
          unfold wrongF
          rw [if_neg hk, if_pos hk2, hin, if_pos h1, if_pos (fun h => by rw [htd.2 h] at h2; cases h2)]
        · have h2 : td = true := by simpa using h2
          unfold wrongF
          rw [if_neg hk, if_pos hk2, hin, if_pos h1, if_neg (not_not_intro (htd.1 h2))]
      · have h1 : t = true := by simpa using h1
        have hk2 : ¬ x.k = 2 := by simpa using hk2
        refine jnC_mk (fun _ => vIf_f rfl (jnC_mk (good ?_)))
        unfold wrongF
        rw [if_neg hk, if_neg hk2, if_pos (by omega), hin, if_pos h1]
  refine ⟨_, _, rfl, x.k, r3.cell rfl, vIf_mk (fun h1 => k3 true ⟨fun _ => .inl (of_decide_eq_true h1), fun _ => rfl⟩) (fun h1 => ⟨x.k, r3.cell rfl, k3 _ ?_⟩)⟩
  have h1 := of_decide_eq_false h1
  rw [decide_eq_true_iff]
  exact ⟨fun h => .inr h, fun h => h.resolve_left h1⟩
/-! ### Names, Same -/
end Go.Proofs.YtfdhaeglhkmmpaaGreat
/- Laid by the shelf's tools (plain mode): slices.Sort at this program's ints lies as the shelf's does. -/
namespace Go.Proofs
open Go.Shelf
def Tryz.sortI_ren : Go.Shelf.Ren := ⟨fun | 189 => 70 | 125 => 92 | 257 => 91 | 128 => 128 | 129 => 129 | 294 => 119 | 295 => 120 | 296 => 121 | 297 => 122 | 298 => 123 | 299 => 124 | 216 => 125 | 300 => 126 | 301 => 127 | 328 => 139 | 329 => 140 | 330 => 141 | 331 => 142 | 332 => 143 | 215 => 144 | 343 => 150 | n => n, fun | 28 => 70 | 3 => 3 | 46 => 137 | 0 => 0 | 51 => 172 | 53 => 174 | 4 => 4 | 183 => 165 | 182 => 164 | 131 => 98 | 5 => 5 | 9 => 9 | 218 => 184 | 222 => 188 | 228 => 195 | 229 => 43 | n => n, fun | n => n⟩
theorem Tryz.sortI : Go.Proofs.Lays.n189 Tryz.prog Tryz.sortI_ren := {
  mixed := by kernel_rfl
  f125 := Tryz.func92.trans (congrArg some (by kernel_rfl))
  f128 := Tryz.func128.trans (congrArg some (by kernel_rfl))
  f129 := Tryz.func129.trans (congrArg some (by kernel_rfl))
  f189 := Tryz.func70.trans (congrArg some (by kernel_rfl))
  f215 := Tryz.func144.trans (congrArg some (by kernel_rfl))
  f216 := Tryz.func125.trans (congrArg some (by kernel_rfl))
  f257 := Tryz.func91.trans (congrArg some (by kernel_rfl))
  f294 := Tryz.func119.trans (congrArg some (by kernel_rfl))
  f295 := Tryz.func120.trans (congrArg some (by kernel_rfl))
  f296 := Tryz.func121.trans (congrArg some (by kernel_rfl))
  f297 := Tryz.func122.trans (congrArg some (by kernel_rfl))
  f298 := Tryz.func123.trans (congrArg some (by kernel_rfl))
  f299 := Tryz.func124.trans (congrArg some (by kernel_rfl))
  f300 := Tryz.func126.trans (congrArg some (by kernel_rfl))
  f301 := Tryz.func127.trans (congrArg some (by kernel_rfl))
  f328 := Tryz.func139.trans (congrArg some (by kernel_rfl))
  f329 := Tryz.func140.trans (congrArg some (by kernel_rfl))
  f330 := Tryz.func141.trans (congrArg some (by kernel_rfl))
  f331 := Tryz.func142.trans (congrArg some (by kernel_rfl))
  f332 := Tryz.func143.trans (congrArg some (by kernel_rfl))
  f343 := Tryz.func150.trans (congrArg some (by kernel_rfl))
  t0 := Tryz.underlying0
  a0 := Tryz.isAgg0
  z0 := Tryz.sizeOf0
  v0 := Tryz.zeroValue0
  t3 := Tryz.underlying3
  a3 := Tryz.isAgg3
  z3 := Tryz.sizeOf3
  v3 := Tryz.zeroValue3
  t4 := Tryz.underlying4
  a4 := Tryz.isAgg4
  z4 := Tryz.sizeOf4
  v4 := Tryz.zeroValue4
  t5 := Tryz.underlying5
  a5 := Tryz.isAgg5
  z5 := Tryz.sizeOf5
  v5 := Tryz.zeroValue5
  t9 := Tryz.underlying9
  a9 := Tryz.isAgg9
  z9 := Tryz.sizeOf9
  v9 := Tryz.zeroValue9
  t28 := Tryz.underlying70
  a28 := Tryz.isAgg70
  z28 := Tryz.sizeOf70
  v28 := Tryz.zeroValue70
  t46 := Tryz.underlying137
  a46 := Tryz.isAgg137
  z46 := Tryz.sizeOf137
  v46 := Tryz.zeroValue137
  t51 := Tryz.underlying172
  a51 := Tryz.isAgg172
  z51 := Tryz.sizeOf172
  v51 := Tryz.zeroValue172
  t53 := Tryz.underlying174
  a53 := Tryz.isAgg174
  z53 := Tryz.sizeOf174
  v53 := Tryz.zeroValue174
  t131 := Tryz.underlying98
  a131 := Tryz.isAgg98
  z131 := Tryz.sizeOf98
  v131 := Tryz.zeroValue98
  t182 := Tryz.underlying164
  a182 := Tryz.isAgg164
  z182 := Tryz.sizeOf164
  v182 := Tryz.zeroValue164
  t183 := Tryz.underlying165
  a183 := Tryz.isAgg165
  z183 := Tryz.sizeOf165
  v183 := Tryz.zeroValue165
  t218 := Tryz.underlying184
  a218 := Tryz.isAgg184
  z218 := Tryz.sizeOf184
  v218 := Tryz.zeroValue184
  t222 := Tryz.underlying188
  a222 := Tryz.isAgg188
  z222 := Tryz.sizeOf188
  v222 := Tryz.zeroValue188
  t228 := Tryz.underlying195
  a228 := Tryz.isAgg195
  z228 := Tryz.sizeOf195
  v228 := Tryz.zeroValue195
  t229 := Tryz.underlying43
  a229 := Tryz.isAgg43
  z229 := Tryz.sizeOf43
  v229 := Tryz.zeroValue43 }
end Go.Proofs
/- ints in order, each once -/
namespace Go.Proofs.YtfdhaeglhkmmpaaGreat
open Go.GV Go.RowKit Go.Lib
set_option linter.unusedVariables false
set_option linter.unusedSimpArgs false
/-! ### the plain functions -/
def addS (n : Int) (s : List Int × Bool) (x : Int) : List Int × Bool :=
  if !s.2 && decide (n ≤ x) then ((if n < x then s.1 ++ [n] else s.1) ++ [x], true) else (s.1 ++ [x], s.2)
def addI (l : List Int) (n : Int) : List Int :=
  if (l.foldl (addS n) ([], false)).2 then (l.foldl (addS n) ([], false)).1 else (l.foldl (addS n) ([], false)).1 ++ [n]
def addR (n : Int) : List Int → List Int
  | [] => [n]
  | x :: xs => if n ≤ x then (if n < x then n :: x :: xs else x :: xs) else x :: addR n xs
theorem addS_done (n : Int) : ∀ (l o : List Int), l.foldl (addS n) (o, true) = (o ++ l, true)
  | [], o => by simp
  | x :: xs, o => by
    show xs.foldl (addS n) (addS n (o, true) x) = _
    have : addS n (o, true) x = (o ++ [x], true) := by simp [addS]
    rw [this, addS_done n xs (o ++ [x])]
    simp
theorem addS_fold (n : Int) : ∀ (l o : List Int), (if (l.foldl (addS n) (o, false)).2 then (l.foldl (addS n) (o, false)).1 else (l.foldl (addS n) (o, false)).1 ++ [n]) = o ++ addR n l
  | [], o => by simp [addR]
  | x :: xs, o => by
    show (if (xs.foldl (addS n) (addS n (o, false) x)).2 then (xs.foldl (addS n) (addS n (o, false) x)).1 else (xs.foldl (addS n) (addS n (o, false) x)).1 ++ [n]) = _
    unfold addR
    by_cases h : n ≤ x
    · have e : addS n (o, false) x = ((if n < x then o ++ [n] else o) ++ [x], true) := by simp [addS, h]
      rw [e, addS_done]
      rw [if_pos rfl, if_pos h]
      by_cases h2 : n < x
      · rw [if_pos h2, if_pos h2]; simp
      · rw [if_neg h2, if_neg h2]; simp
    · have e : addS n (o, false) x = (o ++ [x], false) := by simp [addS, h]
      rw [e, addS_fold n xs (o ++ [x]), if_neg h]
      simp
theorem addI_eq (l : List Int) (n : Int) : addI l n = addR n l := addS_fold n l []
theorem addR_mem (n : Int) : ∀ (l : List Int) (y : Int), y ∈ addR n l ↔ y = n ∨ y ∈ l
  | [], y => by simp [addR]
  | x :: xs, y => by
    unfold addR
    by_cases h : n ≤ x
    · rw [if_pos h]
      by_cases h2 : n < x
      · rw [if_pos h2]; simp
      · rw [if_neg h2]
        have : n = x := by omega
        subst this
        simp
    · rw [if_neg h]
      simp only [List.mem_cons, addR_mem n xs y]
      constructor
      · rintro (h1 | h1 | h1)
        · exact .inr (.inl h1)
        · exact .inl h1
        · exact .inr (.inr h1)
      · rintro (h1 | h1 | h1)
        · exact .inr (.inl h1)
        · exact .inl h1
        · exact .inr (.inr h1)
def AscI (l : List Int) : Prop := l.Pairwise (· < ·)
theorem addR_asc (n : Int) : ∀ {l : List Int}, AscI l → AscI (addR n l)
  | [], _ => List.pairwise_singleton _ _
  | x :: xs, h => by
    unfold addR
    have hc := List.pairwise_cons.1 h
    by_cases h1 : n ≤ x
    · rw [if_pos h1]
      by_cases h2 : n < x
      · rw [if_pos h2]
        refine List.pairwise_cons.2 ⟨fun y hy => ?_, h⟩
        rcases List.mem_cons.1 hy with rfl | hy
        · exact h2
        · have := hc.1 y hy; omega
      · rw [if_neg h2]; exact h
    · rw [if_neg h1]
      refine List.pairwise_cons.2 ⟨fun y hy => ?_, addR_asc n hc.2⟩
      rcases (addR_mem n xs y).1 hy with rfl | hy
      · omega
      · exact hc.1 y hy
theorem AscI.unique : ∀ {a b : List Int}, AscI a → AscI b → (∀ x, x ∈ a ↔ x ∈ b) → a = b
  | [], [], _, _, _ => rfl
  | [], y :: ys, _, _, h => absurd ((h y).2 (List.mem_cons_self ..)) (by simp)
  | x :: xs, [], _, _, h => absurd ((h x).1 (List.mem_cons_self ..)) (by simp)
  | x :: xs, y :: ys, ha, hb, h => by
    have ha' := List.pairwise_cons.1 ha
    have hb' := List.pairwise_cons.1 hb
    have hxy : x = y := by
      rcases List.mem_cons.1 ((h x).1 (List.mem_cons_self ..)) with e | e
      · exact e
      · rcases List.mem_cons.1 ((h y).2 (List.mem_cons_self ..)) with e' | e'
        · exact e'.symm
        · have := hb'.1 x e; have := ha'.1 y e'; omega
    subst hxy
    congr 1
    refine AscI.unique ha'.2 hb'.2 (fun z => ?_)
    constructor
    · intro hz
      rcases List.mem_cons.1 ((h z).1 (List.mem_cons_of_mem _ hz)) with e | e
      · subst e; have := ha'.1 z hz; omega
      · exact e
    · intro hz
      rcases List.mem_cons.1 ((h z).2 (List.mem_cons_of_mem _ hz)) with e | e
      · subst e; have := hb'.1 z hz; omega
      · exact e
/-- a row, rising, each once -/
def norm (l : List Int) : List Int := l.foldl addI []
theorem norm_snoc (l : List Int) (x : Int) : norm (l ++ [x]) = addI (norm l) x := by simp [norm]
theorem norm_both : ∀ (l : List Int) (acc : List Int), AscI acc → AscI (l.foldl addI acc) ∧ ∀ y, y ∈ l.foldl addI acc ↔ y ∈ acc ∨ y ∈ l
  | [], acc, h => ⟨h, by simp⟩
  | x :: xs, acc, h => by
    obtain ⟨h1, h2⟩ := norm_both xs (addI acc x) (by rw [addI_eq]; exact addR_asc x h)
    refine ⟨h1, fun y => ?_⟩
    show y ∈ xs.foldl addI (addI acc x) ↔ _
    rw [h2, addI_eq, addR_mem, List.mem_cons]
    constructor
    · rintro ((h3 | h3) | h3)
      · exact .inr (.inl h3)
      · exact .inl h3
      · exact .inr (.inr h3)
    · rintro (h3 | h3 | h3)
      · exact .inl (.inr h3)
      · exact .inl (.inl h3)
      · exact .inr h3
theorem norm_asc (l : List Int) : AscI (norm l) := (norm_both l [] List.Pairwise.nil).1
theorem norm_mem (l : List Int) (y : Int) : y ∈ norm l ↔ y ∈ l := by rw [norm, (norm_both l [] List.Pairwise.nil).2]; simp
theorem norm_eq {l r : List Int} (h : AscI r) (hm : ∀ y, y ∈ r ↔ y ∈ l) : r = norm l := h.unique (norm_asc l) (fun y => by rw [hm, norm_mem])
theorem addS_len (n : Int) : ∀ (l : List Int) (s : List Int × Bool), (l.foldl (addS n) s).1.length ≤ s.1.length + l.length + (if s.2 then 0 else 1)
  | [], s => by simp
  | x :: xs, s => by
    have h := addS_len n xs (addS n s x)
    show (xs.foldl (addS n) (addS n s x)).1.length ≤ _
    refine Nat.le_trans h ?_
    obtain ⟨o, d⟩ := s
    cases d with
    | true => simp [addS]; omega
    | false =>
      by_cases h1 : n ≤ x
      · by_cases h2 : n < x
        · simp [addS, h1, h2]; omega
        · simp [addS, h1, h2]; omega
      · simp [addS, h1]; omega
theorem addR_len (n : Int) : ∀ l : List Int, (addR n l).length ≤ l.length + 1
  | [] => by simp [addR]
  | x :: xs => by
    unfold addR
    split
    · split <;> simp
    · have := addR_len n xs; simp; omega
theorem norm_len (l : List Int) : (norm l).length ≤ l.length := by
  have h : ∀ (l acc : List Int), (l.foldl addI acc).length ≤ acc.length + l.length := by
    intro l
    induction l with
    | nil => intro acc; simp
    | cons x xs ih =>
      intro acc
      have h1 := ih (addI acc x)
      have h2 := addR_len x acc
      rw [← addI_eq] at h2
      show (xs.foldl addI (addI acc x)).length ≤ _
      simp; omega
  have := h l []
  simp only [List.length_nil, Nat.zero_add] at this
  exact this
/-! ### Add -/
theorem add_calls (A : Option Addr) (n c : Nat) (l : List Int) (x : Int) (w : World) (h : Sl w 1 A n (ivs l)) (hn : n ≤ 549755813888) :
    Calls Tryz.prog 133 #[.slice A n c, .int .i64 x] w fun e w' => Fr (fun _ => False) w w' ∧ ∃ A' c', e = .returned (.slice A' (addI l x).length c') ∧ Row w' w.heap.size 3 1 A' (addI l x).length c' (ivs (addI l x)) := by
  refine (F133.of A n c x w (Q := fun v w' => Fr (fun _ => False) w w' ∧ ∃ A' c', v = .slice A' (addI l x).length c' ∧ Row w' w.heap.size 3 1 A' (addI l x).length c' (ivs (addI l x))) ?_).mono (fun e w' ⟨v, he, hf, A', c', hv, h⟩ => ⟨hf, A', c', by rw [he, hv], h⟩)
  have hl := sl_n h
  refine jnC_mk (loop_rule (fun s u => Fr (fun _ => False) w u ∧ ∃ (i : Nat) (out : List Int) (dn : Bool) (A5 : Option Addr) (c5 : Nat), i ≤ n ∧ s = ((A, n, c), x, (A5, out.length, c5), dn, (i : Int), ()) ∧ Row u w.heap.size 3 1 A5 out.length c5 (ivs out) ∧ (l.take i).foldl (addS x) ([], false) = (out, dn))
    (fun s _ => (n - s.2.2.2.2.1).toNat) ?_ _ _ ⟨Fr.refl _ _, 0, [], false, none, 0, by omega, rfl, Row.nil _ _ _ _, by simp⟩)
  rintro s u C ⟨hf, i, out, dn, A5, c5, hi, rfl, hr5, hinv⟩ hC _
  have hol : out.length ≤ i + 1 := by
    have := addS_len x (l.take i) ([], false)
    rw [hinv, List.length_take] at this
    simp at this; omega
  have fsz := hf.size
  refine vIf_mk (fun hlt => ?_) (fun hge => ?_)
  · have hlt2 : (i : Int) < (n : Int) := of_decide_eq_true hlt
    have gi := at_lt (l := l) (i := i) (by omega)
    generalize hy : l[i]'(by omega) = y at gi
    have rd : ∀ {v : World}, Fr (fun _ => False) w v → Sl v 1 A n (ivs l) := fun fv => fv.sl h (fun _ _ _ h => h)
    -- the last step: l[i] is appended
    have last : ∀ (u2 : World) (out2 : List Int) (dn2 : Bool) (A2 : Option Addr) (c2 : Nat), Fr (fun _ => False) w u2 → Row u2 w.heap.size 3 1 A2 out2.length c2 (ivs out2) → out2.length ≤ i + 2 → addS x (out, dn) y = (out2 ++ [y], dn2) →
        jnC (F133.k10 (fun v w' => Fr (fun _ => False) w w' ∧ ∃ A' c', v = .slice A' (addI l x).length c' ∧ Row w' w.heap.size 3 1 A' (addI l x).length c' (ivs (addI l x))) C) ((A, n, c), x, (A2, out2.length, c2), dn2, (i : Int), ()) u2 := by
      intro u2 out2 dn2 A2 c2 fu2 hr2 ho2 hst
      refine jnC_mk (fun _ => sl_rd (rd fu2) (by omega) gi ?_)
      refine push_int (n := out2.length) hr2 fu2.size (by omega) (fun A' c' w' hr' f' => ?_)
      have hl1 : out2.length + 1 = (out2 ++ [y]).length := by simp
      refine jnC_mk (hC _ _ ⟨own_fr fu2 hr2 f', i + 1, out2 ++ [y], dn2, A', c', by omega, ?_, by rw [← hl1]; exact hr', ?_⟩ ?_)
      · show (_, _, _, _, IntKind.wrap .i64 ((i : Int) + 1), ()) = _
        rw [ei i (by omega), hl1]
      · rw [take_succ_at gi, List.foldl_append, hinv]; exact hst
      · show ((n : Int) - IntKind.wrap .i64 ((i : Int) + 1)).toNat < ((n : Int) - (i : Int)).toNat
        rw [ei i (by omega)]; omega
    cases dn with
    | true =>
      refine vIf_f rfl (jnC_mk (fun _ => vIf_f rfl ?_))
      exact last u out true A5 c5 hf hr5 (by omega) (by simp [addS])
    | false =>
      refine vIf_t rfl (sl_rd (rd hf) (by omega) gi (jnC_mk (fun _ => ?_)))
      by_cases hxy : x ≤ y
      · refine vIf_t (decide_eq_true hxy) (sl_rd (rd hf) (by omega) gi ?_)
        refine vIf_mk (fun hlt => ?_) (fun hnl => ?_)
        · have hlt : x < y := of_decide_eq_true hlt
          refine push_int (n := out.length) hr5 fsz (by omega) (fun A' c' w' hr' f' => ?_)
          have hl1 : out.length + 1 = (out ++ [x]).length := by simp
          rw [hl1] at hr' ⊢
          exact last w' (out ++ [x]) true A' c' (own_fr hf hr5 f') hr' (by simp; omega) (by simp [addS, hxy, hlt])
        · have hnl : ¬ x < y := of_decide_eq_false hnl
          exact last u out true A5 c5 hf hr5 (by omega) (by simp [addS, hxy, hnl])
      · exact vIf_f (decide_eq_false hxy) (last u out false A5 c5 hf hr5 (by omega) (by simp [addS, hxy]))
  · have hge2 : ¬ (i : Int) < (n : Int) := of_decide_eq_false hge
    rw [List.take_of_length_le (by omega)] at hinv
    cases dn with
    | true =>
      have he : addI l x = out := by unfold addI; rw [hinv]; rfl
      rw [he]
      exact vIf_f rfl ⟨hf, A5, c5, rfl, hr5⟩
    | false =>
      have he : addI l x = out ++ [x] := by unfold addI; rw [hinv]; rfl
      rw [he]
      refine vIf_t rfl (push_int (n := out.length) hr5 fsz (by omega) (fun A' c' w' hr' f' => ?_))
      have hl1 : out.length + 1 = (out ++ [x]).length := by simp
      rw [hl1] at hr' ⊢
      exact ⟨own_fr hf hr5 f', A', c', rfl, hr'⟩
/-! ### Row -/
end Go.Proofs.YtfdhaeglhkmmpaaGreat
/- ints: Sort; parts of rows -/
namespace Go.Proofs.YtfdhaeglhkmmpaaGreat
open Go.GV Go.RowKit Go.Lib
set_option linter.unusedVariables false
set_option linter.unusedSimpArgs false
theorem sort_nil (c : Nat) (w : World) : Calls Tryz.prog 70 #[.slice none 0 c] w fun e w' => e = .returned (.tuple #[]) ∧ w' = w :=
  Any.slices_Sort_int_none Tryz.sortI none c w
open Go.Sort in
theorem sort_int (B : Nat) (e : TypeId) (b c : Nat) (l : List Int) (n : Nat) (w : World) (h : Row w B e 1 (some ⟨b, 0, none⟩) n c (ivs l)) (hn : n < 4611686018427387904) :
    Calls Tryz.prog 70 #[.slice (some ⟨b, 0, none⟩) n c] w fun e' w' => e' = .returned (.tuple #[]) ∧ Fr (fun k => k = b) w w' ∧ ∃ r, Row w' B e 1 (some ⟨b, 0, none⟩) n c (ivs r) ∧ r.Perm l ∧ r.Pairwise (· ≤ ·) := by
  have hrl := sl_n h.sl
  have hlen := h.len
  rcases h.at_ with ⟨h', _⟩ | ⟨b', cs, hA, hB, hh, hs, ht⟩
  · cases h'
  injection hA with hA
  injection hA with hA
  subst hA
  have hH : Holds (Value.int .i64) w b 0 l.toArray := by
    intro j hj
    have hj2 : j < l.length := by simpa using hj
    have e1 : l.toArray[j]! = l[j]'hj2 := by
      rw [getElem!_pos l.toArray j hj]; simp
    rw [e1]
    constructor
    · exact cellsAt_take hh ht j _ (ivs_at (at_lt hj2))
    · simp [World.frozen?, hh]
  have hcon := Any.slices_Sort_int Tryz.sortI b 0 c l w hH (heap_lt hh) (by omega)
  rw [hrl] at hcon
  refine Calls.mono hcon ?_
  rintro e' w' ⟨rfl, q, os, rfl⟩
  generalize hd : l.mergeSort (fun x y => decide (x ≤ y)) = d
  have hperm : d.Perm l := by rw [← hd]; exact List.mergeSort_perm _ _
  have hsrt : d.Pairwise (· ≤ ·) := by
    have h1 := List.pairwise_mergeSort (le := fun x y : Int => decide (x ≤ y)) (fun a b c h1 h2 => by simp at *; omega) (fun a b => by simp; omega) l
    rw [hd] at h1
    exact h1.imp (fun h => of_decide_eq_true h)
  have hdl : d.length = n := by rw [hperm.length_eq, hrl]
  have hle := h.le
  have heap : ∀ k, k < w.heap.size → (grow (putRow (Value.int .i64) (Go.Sort.ahead w q) b 0 d.toArray) os).heap[k]? = if k = b then some (.cells (putCells (Value.int .i64) 0 d.toArray cs) e) else w.heap[k]? := by
    intro k hk
    show ((putRow (Value.int .i64) (Go.Sort.ahead w q) b 0 d.toArray).heap ++ os)[k]? = _
    have hsz : k < (putRow (Value.int .i64) (Go.Sort.ahead w q) b 0 d.toArray).heap.size := by
      show k < ((Go.Sort.ahead w q).heap.modify b _).size
      rw [Array.size_modify]; exact hk
    rw [Array.getElem?_append_left hsz]
    show ((Go.Sort.ahead w q).heap.modify b (onCells (putCells (Value.int .i64) 0 d.toArray)))[k]? = _
    rw [Array.getElem?_modify]
    by_cases hkb : k = b
    · subst hkb
      rw [if_pos rfl, if_pos rfl]
      show Option.map _ w.heap[k]? = _
      rw [hh]; rfl
    · rw [if_neg (fun h => hkb h.symm), if_neg hkb]; rfl
  refine ⟨rfl, ⟨rfl, rfl, rfl, ?_, fun k hk hn' => ?_⟩, d, ⟨?_, hle, .inr ⟨b, putCells (Value.int .i64) 0 d.toArray cs, rfl, hB, ?_, ?_, ?_⟩⟩, hperm, hsrt⟩
  · show w.heap.size ≤ ((putRow (Value.int .i64) (Go.Sort.ahead w q) b 0 d.toArray).heap ++ os).size
    have : (putRow (Value.int .i64) (Go.Sort.ahead w q) b 0 d.toArray).heap.size = w.heap.size := by
      show ((Go.Sort.ahead w q).heap.modify b _).size = _
      rw [Array.size_modify]; rfl
    rw [Array.size_append]; omega
  · rw [heap k hk, if_neg hn']
  · rw [ivs_len, hdl]; omega
  · rw [heap b (heap_lt hh), if_pos rfl]
  · simp [putCells, hs]
  · apply List.ext_getElem?
    intro j
    have hcsz : n ≤ cs.size := by rw [hs]; omega
    by_cases hj : j < n
    · rw [List.getElem?_take, if_pos (by omega), Array.getElem?_toList]
      unfold putCells
      rw [Array.getElem?_mapIdx, Array.getElem?_eq_getElem (show j < cs.size by omega), Option.map_some, if_pos ⟨Nat.zero_le _, by simp; omega⟩]
      rw [Nat.sub_zero, getElem!_pos d.toArray j (by simp; omega), ivs_at (at_lt (by omega))]
      simp
    · rw [List.getElem?_take, if_neg (by omega), List.getElem?_eq_none (by rw [ivs_len, hdl]; omega)]
/-! ### writing into a row of ints -/
theorem row_put {w : World} {B : Nat} {e : TypeId} {sz : Nat} {A : Option Addr} {n c : Nat} {vs us : List Value} {o' : Nat} {K : World → Prop} (hr : Row w B e sz A n c vs) (hn : n ≠ 0) (hfit : o' + us.length ≤ n * sz) (h1 : ∀ v ∈ us, v.oneCell' = true)
    (hK : ∀ w', Row w' B e sz A n c (splice vs o' us) → Fr (fun k => blkOf A = some k) w w' → K w') : dr A fun b o => st w b (o + o') us K := by
  rcases hr.at_ with ⟨_, h0, _⟩ | ⟨b, cs, rfl, hB, hh, hs, ht⟩
  · exact absurd h0 hn
  · have hle := hr.le
    have hl := hr.len
    have hmul : n * sz ≤ c * sz := Nat.mul_le_mul_right _ hle
    show st w b (0 + o') us K
    rw [Nat.zero_add]
    have hfit2 : o' + us.length ≤ cs.toList.length := by simp; omega
    refine ⟨⟨cs, e, 0, 0, hh, by simpa using hfit2, .inl (Nat.zero_le _)⟩, h1, hK _ ⟨by rw [splice_length (by omega)]; exact hl, hle, .inr ⟨b, _, rfl, hB, stB_heap hh, ?_, ?_⟩⟩ (Fr.st (fun _ => rfl))⟩
    · simp only [List.size_toArray]; rw [splice_length hfit2]; simpa using hs
    · apply List.ext_getElem?
      intro j
      simp only [List.getElem?_take]
      by_cases hj : j < n * sz
      · rw [if_pos hj, splice_get hfit2, splice_get (by omega), ← ht]
        simp only [List.getElem?_take]
        by_cases h2 : j < o'
        · rw [if_pos h2, if_pos h2, if_pos hj]
        · rw [if_neg h2, if_neg h2]
          split
          · rfl
          · first | rfl | rw [if_pos hj]
      · rw [if_neg hj, List.getElem?_eq_none (by rw [splice_length (by omega)]; omega)]
theorem row_cut {w : World} {B : Nat} {e : TypeId} {sz : Nat} {A : Option Addr} {n c k : Nat} {vs : List Value} (hr : Row w B e sz A n c vs) (hk : k ≤ n) : Row w B e sz A k c (vs.take (k * sz)) := by
  have hl := hr.len
  have hle := hr.le
  have hmul : k * sz ≤ n * sz := Nat.mul_le_mul_right _ hk
  refine ⟨by rw [List.length_take]; omega, by omega, ?_⟩
  rcases hr.at_ with ⟨h1, h2, h3⟩ | ⟨b, cs, h1, h2, h3, h4, h5⟩
  · exact .inl ⟨h1, by omega, h3⟩
  · refine .inr ⟨b, cs, h1, h2, h3, h4, ?_⟩
    rw [← h5, List.take_take, Nat.min_eq_left hmul]
theorem ivs_set {P : List Int} {k : Nat} {x : Int} (hk : k < P.length) : ivs (P.set k x) = splice (ivs P) (k * 1) [.int .i64 x] := by
  have hfit : k * 1 + [Value.int .i64 x].length ≤ (ivs P).length := by rw [ivs_len]; simp; omega
  apply List.ext_getElem?
  intro t
  rw [splice_get hfit]
  simp only [Nat.mul_one, List.length_singleton, ivs, List.map_set]
  by_cases h1 : t < k
  · rw [if_pos h1, List.getElem?_set_ne (by omega)]
  · rw [if_neg h1]
    by_cases h2 : t < k + 1
    · have : t = k := by omega
      subst this
      rw [if_pos h2, List.getElem?_set_self (by simpa using hk)]
      simp
    · rw [if_neg h2, List.getElem?_set_ne (by omega)]
/-- the tail of a row is cleared -/
theorem row_clear {w : World} {B : Nat} {e : TypeId} {b n c k : Nat} {P : List Int} {K : World → Prop} (hr : Row w B e 1 (some ⟨b, 0, none⟩) n c (ivs P)) (hk : k < n)
    (hK : ∀ w', Row w' B e 1 (some ⟨b, 0, none⟩) k c (ivs (P.take k)) → Fr (fun j => j = b) w w' → K w') : dr (slA (some (⟨b, 0, none⟩ : Addr)) c k 1) fun b o => st w b o (zeros (n - k) [Value.int .i64 0]) K := by
  have hle := hr.le
  have hPl := sl_n hr.sl
  have hsk : slA (some (⟨b, 0, none⟩ : Addr)) c k 1 = some ⟨b, 0 + k * 1, none⟩ := by
    unfold slA
    rw [if_neg (by omega), Option.map_some, add_none]
  rw [hsk]
  refine row_put (A := some ⟨b, 0, none⟩) (o' := k * 1) hr (by omega) (by rw [zeros_length]; simp; omega) (fun v hv => ?_) (fun u2 hr2 f2 => hK u2 ?_ (f2.mono (fun j _ hj => by simpa [blkOf] using hj.symm)))
  · simp only [zeros, List.mem_flatten, List.mem_replicate] at hv
    obtain ⟨l, ⟨_, rfl⟩, hv⟩ := hv
    simp at hv; subst hv; rfl
  · have hcut := row_cut hr2 (k := k) (by omega)
    have e : (splice (ivs P) (k * 1) (zeros (n - k) [Value.int .i64 0])).take (k * 1) = ivs (P.take k) := by
      unfold splice
      rw [List.append_assoc, List.take_append_of_le_length (by rw [List.length_take, ivs_len]; omega), List.take_take, Nat.min_self, Nat.mul_one, ivs_take]
    rw [e] at hcut
    exact hcut
theorem slA_zero (b c : Nat) : slA (some (⟨b, 0, none⟩ : Addr)) c 0 1 = some ⟨b, 0, none⟩ := by
  unfold slA
  split
  · rfl
  · simp [Addr.add]
end Go.Proofs.YtfdhaeglhkmmpaaGreat
/- ints: Compact -/
namespace Go.Proofs.YtfdhaeglhkmmpaaGreat
open Go.GV Go.RowKit Go.Lib
set_option linter.unusedVariables false
set_option linter.unusedSimpArgs false
/-- without neighbours that are one -/
def cpt (r : List Int) : Nat → List Int
  | 0 => []
  | n + 1 => cpt r n ++ (if n ≠ 0 ∧ r[n]? = r[n - 1]? then [] else r[n]?.toList)
theorem cpt_mem (r : List Int) : ∀ n d, d ∈ cpt r n ↔ d ∈ r.take n
  | 0, d => by simp [cpt]
  | n + 1, d => by
    have ih := cpt_mem r n d
    rw [cpt, List.take_add_one, List.mem_append, List.mem_append, ih]
    by_cases h : n ≠ 0 ∧ r[n]? = r[n - 1]?
    · rw [if_pos h]
      constructor
      · intro h'; exact h'.elim .inl (fun h => by cases h)
      · rintro (h' | h')
        · exact .inl h'
        · left
          rw [h.2] at h'
          cases hr : r[n - 1]? with
          | none => rw [hr] at h'; cases h'
          | some x =>
            rw [hr] at h'
            simp at h'
            subst h'
            exact List.mem_of_getElem? (i := n - 1) (by rw [List.getElem?_take, if_pos (by omega)]; exact hr)
    · rw [if_neg h]
theorem cpt_asc {r : List Int} (h : r.Pairwise (· ≤ ·)) : ∀ n, n ≤ r.length → AscI (cpt r n)
  | 0, _ => List.Pairwise.nil
  | n + 1, hn => by
    have ih := cpt_asc h n (by omega)
    rw [cpt]
    by_cases hc : n ≠ 0 ∧ r[n]? = r[n - 1]?
    · rw [if_pos hc, List.append_nil]; exact ih
    · rw [if_neg hc, List.getElem?_eq_getElem (by omega)]
      refine List.pairwise_append.2 ⟨ih, by simp, fun a ha b hb => ?_⟩
      simp at hb
      subst hb
      have ha' := (cpt_mem r n a).1 ha
      obtain ⟨i, hi, hai⟩ := List.mem_iff_getElem.1 ha'
      rw [List.length_take] at hi
      rw [List.getElem_take] at hai
      have hn0 : n ≠ 0 := by omega
      have hprev : r[n - 1]'(by omega) ≠ r[n]'(by omega) := by
        intro he
        apply hc
        refine ⟨hn0, ?_⟩
        rw [List.getElem?_eq_getElem (by omega), List.getElem?_eq_getElem (by omega), he]
      have hp := List.pairwise_iff_getElem.1 h
      have h2 := hp (n - 1) n (by omega) (by omega) (by omega)
      subst hai
      by_cases hin : i = n - 1
      · subst hin; omega
      · have h3 := hp i (n - 1) (by omega) (by omega) (by omega)
        omega
theorem compact_int (B : Nat) (e : TypeId) (A : Option Addr) (c : Nat) (r : List Int) (n : Nat) (w : World) (h : Row w B e 1 A n c (ivs r)) (hn : n ≤ 1099511627776) :
    Calls Tryz.prog 71 #[.slice A n c] w fun e' w' => e' = .returned (.slice A (cpt r n).length c) ∧ Fr (fun k => blkOf A = some k) w w' ∧ Row w' B e 1 A (cpt r n).length c (ivs (cpt r n)) := by
  refine (F71.of A n c w (Q := fun v w' => v = .slice A (cpt r n).length c ∧ Fr (fun k => blkOf A = some k) w w' ∧ Row w' B e 1 A (cpt r n).length c (ivs (cpt r n))) ?_).mono (fun e w' ⟨v, he, hv, h⟩ => ⟨by rw [he, hv], h⟩)
  have hrl := sl_n h.sl
  have whole : ∀ i, i ≤ n → cpt r i = r.take i → i = n → ∀ u, Fr (fun k => blkOf A = some k) w u → Row u B e 1 A n c (ivs r) → (Value.slice A n c = .slice A (cpt r n).length c ∧ Fr (fun k => blkOf A = some k) w u ∧ Row u B e 1 A (cpt r n).length c (ivs (cpt r n))) := by
    intro i hi hc he u hf hr
    subst he
    rw [hc, List.take_of_length_le (by omega), hrl]
    exact ⟨rfl, hf, hr⟩
  refine vIf_mk (fun h2 => ?_) (fun h2 => jnC_mk ?_)
  · have h2 : (n : Int) < 2 := of_decide_eq_true h2
    refine whole n (Nat.le_refl _) ?_ rfl w (Fr.refl _ _) h
    match n, h2 with
    | 0, _ => rfl
    | 1, _ => simp [cpt, List.take_one, List.head?_eq_getElem?]
    | n + 2, h2 => omega
  have h2 : ¬ (n : Int) < 2 := of_decide_eq_false h2
  have hle := h.le
  obtain ⟨b, hA⟩ : ∃ b, A = some ⟨b, 0, none⟩ := by
    rcases h.at_ with ⟨_, h0, _⟩ | ⟨b, _, hA, _⟩
    · omega
    · exact ⟨b, hA⟩
  subst hA
  refine loop_rule (fun s u => Fr (fun k => blkOf (some (⟨b, 0, none⟩ : Addr)) = some k) w u ∧ Row u B e 1 (some ⟨b, 0, none⟩) n c (ivs r) ∧ ∃ i : Nat, 1 ≤ i ∧ i ≤ n ∧ s = ((some ⟨b, 0, none⟩, n, c), (i : Int), ()) ∧ cpt r i = r.take i)
    (fun s _ => (n - s.2.1).toNat) ?_ _ _ ⟨Fr.refl _ _, h, 1, by omega, by omega, rfl, by simp [cpt, List.take_one, List.head?_eq_getElem?]⟩
  rintro s u C4 ⟨hf, hr, i, hi1, hi, rfl, hc⟩ hC4 _
  refine vIf_mk (fun hlt => ?_) (fun hge => ?_)
  · have hlt2 : (i : Int) < (n : Int) := of_decide_eq_true hlt
    have hrd := (Fr.drew (fun _ => False) u).row hr (fun _ _ h => h)
    have ei1 : IntKind.wrap .i64 ((i : Int) - 1) = ((i - 1 : Nat) : Int) := by rw [i64_id (by omega) (by omega)]; omega
    have gi := at_lt (l := r) (i := i) (by omega)
    have gp := at_lt (l := r) (i := i - 1) (by omega)
    dsimp only
    rw [ei1]
    refine sl_rd hrd.sl (by omega) gi (sl_rd hrd.sl (by omega) gp ?_)
    refine vIf_mk (fun he => ?_) (fun hne => ?_)
    · have he : r[i]'(by omega) = r[i - 1]'(by omega) := by simpa using he
      have hsame : cpt r (i + 1) = r.take i := by
        rw [cpt, if_pos ⟨by omega, by rw [gi, gp, he]⟩, List.append_nil, hc]
      refine gd_mk (decide_eq_true (by omega)) (gd_mk (decide_eq_true (by omega)) (jnC_mk ?_))
      rw [Int.toNat_natCast]
      have hsl : slA (some (⟨b, 0, none⟩ : Addr)) c i 1 = some ⟨b, 0 + i * 1, none⟩ := by
        unfold slA
        rw [if_neg (by omega), Option.map_some, add_none]
      rw [hsl]
      refine loop_rule (fun s u => Fr (fun k => blkOf (some (⟨b, 0, none⟩ : Addr)) = some k) w u ∧ ∃ (j : Nat) (P : List Int), 1 ≤ j ∧ i + j ≤ n ∧ P.length = n ∧ Row u B e 1 (some ⟨b, 0, none⟩) n c (ivs P) ∧ (cpt r (i + j)).length < i + j ∧ P.take (cpt r (i + j)).length = cpt r (i + j) ∧ P.drop (cpt r (i + j)).length = r.drop (cpt r (i + j)).length ∧
          s = ((some ⟨b, 0, none⟩, n, c), (((cpt r (i + j)).length : Nat) : Int), (some ⟨b, 0 + i * 1, none⟩, n - i, c - i), (j : Int), ()))
        (fun s _ => (n - s.2.2.2.1).toNat) ?_ _ _ ⟨hf.trans (Fr.drew (fun _ => False) u) (fun _ _ h => h) (fun _ _ h => h.elim), 1, r, by omega, by omega, hrl, hrd, ?_, ?_, ?_, ?_⟩
      rotate_left
      · rw [hsame, List.length_take]; omega
      · rw [hsame, List.length_take, Nat.min_eq_left (by omega)]
      · rfl
      · rw [hsame, List.length_take, Nat.min_eq_left (by omega)]; rfl
      clear hC4 hf hr hrd
      rintro s u C9 ⟨hf, j, P, hj1, hjn, hPl, hr, hk, htk, hdp, rfl⟩ hC9 _
      generalize hkk : (cpt r (i + j)).length = k at hk htk hdp
      have hrd := (Fr.drew (fun _ => False) u).row hr (fun _ _ h => h)
      have hget : ∀ q, k ≤ q → P[q]? = r[q]? := by
        intro q hq
        have h1 : (P.drop k)[q - k]? = (r.drop k)[q - k]? := by rw [hdp]
        rw [List.getElem?_drop, List.getElem?_drop, show k + (q - k) = q by omega] at h1
        exact h1
      -- the tail of the row, as a slice
      have tail : Sl u.drew 1 (some (⟨b, 0 + i * 1, none⟩ : Addr)) (n - i) (ivs (P.drop i)) := by
        refine ⟨by rw [ivs_len, List.length_drop]; omega, fun _ => ⟨b, 0 + i * 1, rfl, fun q v hq => ?_⟩⟩
        obtain ⟨b', o', hA, hcell⟩ := hrd.sl.2 (by omega)
        cases hA
        have := hcell (i + q) v (by
          unfold ivs at hq ⊢
          rw [List.getElem?_map, List.getElem?_drop] at hq
          rw [List.getElem?_map]; exact hq)
        rw [show 0 + i * 1 + q = 0 + (i + q) by omega]; exact this
      refine vIf_mk (fun hlt => ?_) (fun hge => ?_)
      · have hlt3 : (j : Int) < ((n - i : Nat) : Int) := of_decide_eq_true hlt
        have ej : IntKind.wrap .i64 ((j : Int) - 1) = ((j - 1 : Nat) : Int) := by rw [i64_id (by omega) (by omega)]; omega
        have gi := at_lt (l := r) (i := i + j) (by omega)
        have gp := at_lt (l := r) (i := i + j - 1) (by omega)
        have ti : (P.drop i)[j]? = some (r[i + j]'(by omega)) := by rw [List.getElem?_drop, hget _ (by omega), gi]
        have tp : (P.drop i)[j - 1]? = some (r[i + j - 1]'(by omega)) := by rw [List.getElem?_drop, show i + (j - 1) = i + j - 1 by omega, hget _ (by omega), gp]
        dsimp only
        rw [ej]
        refine sl_rd tail (by omega) ti (sl_rd tail (by omega) tp ?_)
        have enext : IntKind.wrap .i64 ((j : Int) + 1) = ((j + 1 : Nat) : Int) := by rw [i64_id (by omega) (by omega)]; rfl
        refine vIf_mk (fun hne => ?_) (fun he => ?_)
        · have hne2 : r[i + j]'(by omega) ≠ r[i + j - 1]'(by omega) := by simpa using hne
          have hnx : cpt r (i + (j + 1)) = cpt r (i + j) ++ [r[i + j]'(by omega)] := by
            rw [← Nat.add_assoc, cpt, if_neg, gi, Option.toList_some]
            rintro ⟨_, h'⟩
            rw [gi, gp] at h'
            exact hne2 (Option.some.inj h')
          refine sl_rd tail (by omega) ti (dr_mk (gd_mk (decide_eq_true (by omega)) (gd_mk (decide_eq_true (by omega)) ?_)))
          simp only [Int.toNat_natCast]
          refine row_put (A := some ⟨b, 0, none⟩) (o' := k * 1) hrd (by omega) (by simp; omega) (fun v hv => by simp at hv; subst hv; rfl) (fun u2 hr2 f2 => jnC_mk (hC9 _ _ ⟨?_, j + 1, P.set k (r[i + j]'(by omega)), by omega, by omega, by simpa using hPl, ?_, ?_, ?_, ?_, ?_⟩ ?_))
          · exact (hf.trans (Fr.drew (fun _ => False) u) (fun _ _ h => h) (fun _ _ h => h.elim)).trans1 f2
          · rw [ivs_set (by omega)]; exact hr2
          · rw [hnx, List.length_append, hkk]; simp; omega
          · rw [hnx, List.length_append, hkk]
            show (P.set k _).take (k + 1) = _
            rw [List.take_add_one, List.getElem?_set_self (by omega), Option.toList_some, List.take_set_of_le (Nat.le_refl k), htk]
          · rw [hnx, List.length_append, hkk]
            show (P.set k _).drop (k + 1) = r.drop (k + 1)
            rw [List.drop_set_of_lt (by omega)]
            have h3 := congrArg (List.drop 1) hdp
            rw [List.drop_drop, List.drop_drop] at h3
            exact h3
          · rw [hnx, List.length_append, hkk, enext]
            show (_, IntKind.wrap .i64 ((k : Int) + 1), _, _, ()) = _
            rw [i64_id (by omega) (by omega)]; rfl
          · show ((n : Int) - IntKind.wrap .i64 ((j : Int) + 1)).toNat < ((n : Int) - (j : Int)).toNat
            rw [enext]; omega
        · have he2 : r[i + j]'(by omega) = r[i + j - 1]'(by omega) := by simpa using he
          have hnx : cpt r (i + (j + 1)) = cpt r (i + j) := by
            rw [← Nat.add_assoc, cpt, if_pos ⟨by omega, by rw [gi, gp, he2]⟩, List.append_nil]
          refine jnC_mk (hC9 _ _ ⟨hf.trans (Fr.drew (fun _ => False) u) (fun _ _ h => h) (fun _ _ h => h.elim), j + 1, P, by omega, by omega, hPl, hrd, by rw [hnx, hkk]; omega, by rw [hnx, hkk]; exact htk, by rw [hnx, hkk]; exact hdp, ?_⟩ ?_)
          · rw [hnx, hkk, enext]
          · show ((n : Int) - IntKind.wrap .i64 ((j : Int) + 1)).toNat < ((n : Int) - (j : Int)).toNat
            rw [enext]; omega
      · have hge3 : ¬ (j : Int) < ((n - i : Nat) : Int) := of_decide_eq_false hge
        have hij : i + j = n := by omega
        rw [hij] at hkk htk
        dsimp only
        simp only [Int.toNat_natCast]
        refine gd_mk (decide_eq_true (by omega)) (gd_mk (decide_eq_true (by omega)) (vIf_f (by simp; omega) ?_))
        refine row_clear hr (by omega) (fun u2 hr2 f2 => jnC_mk (fun _ => ?_))
        refine gd_mk (decide_eq_true (by show (0 : Int) ≤ (k : Int); omega)) (gd_mk (decide_eq_true (by show (k : Int) ≤ (c : Int); omega)) ⟨?_, hf.trans1 (f2.mono (fun q _ hq => by subst hq; rfl)), ?_⟩)
        · show Value.slice (slA (some ⟨b, 0, none⟩) c 0 1) ((k : Int).toNat) c = _
          rw [Int.toNat_natCast, hkk, slA_zero]
        · rw [hkk]
          rw [htk] at hr2
          exact hr2
    · have hne2 : r[i]'(by omega) ≠ r[i - 1]'(by omega) := by simpa using hne
      refine jnC_mk (hC4 _ _ ⟨hf.trans (Fr.drew (fun _ => False) u) (fun _ _ h => h) (fun _ _ h => h.elim), hrd, i + 1, by omega, by omega, ?_, ?_⟩ ?_)
      · show (_, IntKind.wrap .i64 ((i : Int) + 1), ()) = _
        rw [i64_id (by omega) (by omega)]; rfl
      · rw [cpt, if_neg, hc, List.take_add_one]
        rintro ⟨_, h'⟩
        rw [gi, gp] at h'
        exact hne2 (Option.some.inj h')
      · show ((n : Int) - IntKind.wrap .i64 ((i : Int) + 1)).toNat < ((n : Int) - (i : Int)).toNat
        rw [i64_id (by omega) (by omega)]; omega
  · have hge2 : ¬ (i : Int) < (n : Int) := of_decide_eq_false hge
    exact whole i hi hc (by omega) u hf hr
end Go.Proofs.YtfdhaeglhkmmpaaGreat
/- folders (chapter 11): Ids and the document's; lives -/
namespace Go.Proofs.YtfdhaeglhkmmpaaGreat
open Go.GV Go.RowKit Go.Lib Go.Stb
set_option linter.unusedVariables false
set_option linter.unusedSimpArgs false
theorem sc_calls (B : Nat) (A : Option Addr) (n c : Nat) (r : List Int) (w : World) (h : Row w B 3 1 A n c (ivs r)) (hn : n ≤ 1099511627776) :
    Calls Tryz.prog 70 #[.slice A n c] w fun e w1 => e = .returned (.tuple #[]) ∧ Calls Tryz.prog 71 #[.slice A n c] w1 fun e2 w2 => Fr (fun k => blkOf A = some k) w w2 ∧ e2 = .returned (.slice A (norm r).length c) ∧ Row w2 B 3 1 A (norm r).length c (ivs (norm r)) := by
  have hrl := sl_n h.sl
  have fin : ∀ (u : World) (r1 : List Int), Fr (fun k => blkOf A = some k) w u → Row u B 3 1 A n c (ivs r1) → r1.Perm r → r1.Pairwise (· ≤ ·) →
      Calls Tryz.prog 71 #[.slice A n c] u fun e2 w2 => Fr (fun k => blkOf A = some k) w w2 ∧ e2 = .returned (.slice A (norm r).length c) ∧ Row w2 B 3 1 A (norm r).length c (ivs (norm r)) := by
    intro u r1 fu hr1 hp hs
    have hl1 := sl_n hr1.sl
    refine (compact_int B _ A c r1 n u hr1 hn).mono ?_
    rintro e w8 ⟨rfl, f8, h8⟩
    have heq : cpt r1 n = norm r := norm_eq (cpt_asc hs _ (by omega)) (fun y => by rw [cpt_mem, List.take_of_length_le (by omega)]; exact hp.mem_iff)
    rw [heq] at h8 ⊢
    exact ⟨fu.trans1 f8, rfl, h8⟩
  cases A with
  | none =>
    have hn0 : n = 0 ∧ c = 0 := by
      rcases h.at_ with ⟨_, h', h''⟩ | ⟨_, _, h', _⟩
      · exact ⟨h', h''⟩
      · cases h'
    obtain ⟨rfl, rfl⟩ := hn0
    have : r = [] := List.length_eq_zero_iff.1 hrl
    subst this
    refine (sort_nil 0 w).mono ?_
    rintro e w2 ⟨rfl, rfl⟩
    exact ⟨rfl, fin w2 [] (Fr.refl _ _) h (List.Perm.refl _) List.Pairwise.nil⟩
  | some a =>
    have ha : ∃ b, a = ⟨b, 0, none⟩ := by
      rcases h.at_ with ⟨h', _⟩ | ⟨b, _, h', _⟩
      · cases h'
      · exact ⟨b, Option.some.inj h'⟩
    obtain ⟨b, rfl⟩ := ha
    refine (sort_int B _ b c r n w h (by omega)).mono ?_
    rintro e w2 ⟨rfl, f2, r2, hr2, hp, hs⟩
    exact ⟨rfl, fin w2 r2 (f2.mono (fun k _ hk => by subst hk; rfl)) hr2 hp hs⟩
def idsU (F : Fo) : Nat → List Int
  | 0 => []
  | n + 1 => idsU F n ++ (behF F (n : Nat)).map (·.2)
def idsF (F : Fo) : List Int := norm (idsU F (F.P.length + 1))
theorem idsU_len {F : Fo} (hb : FoB F) : ∀ n, (idsU F n).length ≤ n * 349525
  | 0 => by simp [idsU]
  | n + 1 => by
    have ih := idsU_len hb n
    have h1 := behF_len F (n : Nat)
    have h2 : F.L.length + F.P.length ≤ 349525 := hb
    rw [idsU, List.length_append, List.length_map, Nat.add_mul]
    omega
theorem norm_len' (l : List Int) : (norm l).length ≤ l.length := norm_len l
theorem snd_step {l : List Nm} {j : Nat} {x : Nm} (h : l[j]? = some x) : (l.take (j + 1)).map (·.2) = (l.take j).map (·.2) ++ [x.2] := by rw [List.take_add_one, h]; simp
theorem push_int2 {w : World} {B : Nat} {A : Option Addr} {n c : Nat} {out : List Int} {x : Int} {K : Option Addr → Nat → Nat → World → Prop} (hr : Row w B 3 1 A n c (ivs out)) (hB : B ≤ w.heap.size) (hn : n ≤ 2199023255552)
    (hK : ∀ A' c' w', Row w' B 3 1 A' (n + 1) c' (ivs (out ++ [x])) → Fr (fun k => blkOf A = some k) w w' → (∀ k, blkOf A' = some k → blkOf A = some k ∨ w.heap.size ≤ k) → K A' (n + 1) c' w') : nw w ([Value.int .i64 x] ++ []) 3 fun b w' => app w' 1 8 [Value.int .i64 0] 3 A n c (.slice (some ⟨b, 0, none⟩) 1 1) K := by
  refine nw_mk ?_
  rw [List.append_nil]
  have f1 : Fr (fun _ => False) w (w.alloc (.cells [Value.int .i64 x].toArray 3)) := Fr.alloc _ _ _
  have r1 : Row (w.alloc (.cells [Value.int .i64 x].toArray 3)) 0 3 1 (some ⟨w.heap.size, 0, none⟩) 1 1 (ivs [x]) := Row.new (Nat.zero_le _) rfl
  have hs : (w.alloc (.cells [Value.int .i64 x].toArray 3)).heap.size = w.heap.size + 1 := alloc_size _ _
  generalize w.alloc (.cells [Value.int .i64 x].toArray 3) = w1 at f1 r1 hs ⊢
  refine app_row2 (f1.row hr (fun _ _ h => h)) r1.sl.src (ivs_one [x]) rfl (by omega) (by omega) (by omega) (fun A' c' w' hr' f' hb' => hK A' c' w' (by rw [ivs_app]; exact hr') ?_ (fun k hk => (hb' k hk).imp id (fun h => by omega)))
  exact f1.trans f' (fun _ _ h => h.elim) (fun _ _ h => h)
set_option maxHeartbeats 1000000 in
theorem ids_calls (cs : List Value) (F : Fo) (w : World) (h : FoAt w cs F) (hb : FoB F) :
    Calls Tryz.prog 31 #[ofL cs] w fun e w' => Fr (fun _ => False) w w' ∧ ∃ A' c', e = .returned (.slice A' (idsF F).length c') ∧ Row w' w.heap.size 3 1 A' (idsF F).length c' (ivs (idsF F)) := by
  refine (F31.of cs w (Q := fun v w' => Fr (fun _ => False) w w' ∧ ∃ A' c', v = .slice A' (idsF F).length c' ∧ Row w' w.heap.size 3 1 A' (idsF F).length c' (ivs (idsF F))) ?_).mono (fun e w' ⟨v, he, hf, A', c', hv, h⟩ => ⟨hf, A', c', by rw [he, hv], h⟩)
  have hb' : F.L.length + F.P.length ≤ 349525 := hb
  refine fo_new (fun b w1 f1 _ r1 => ?_)
  have h1 := h.fr0 f1
  have hcl := h.len
  obtain ⟨A, m, c, A', m', c', rfl, hL, hP, hPc⟩ := h
  have hPl := hP.2
  refine ⟨A', m', c', r1.cell rfl, ?_⟩
  have em : IntKind.wrap .i64 (((m' : Nat) : Int) + 1) = ((m' + 1 : Nat) : Int) := ei m' (by omega)
  dsimp only
  rw [em]
  have hs1 := f1.size
  refine jnC_mk (loop_rule (fun s u => Fr (fun _ => False) w1 u ∧ ∃ (i : Nat) (A2 : Option Addr) (c2 : Nat), i ≤ m' + 1 ∧ s = ((b, 0), (A2, (idsU F i).length, c2), ((m' + 1 : Nat) : Int), (i : Int), ()) ∧ Row u w1.heap.size 3 1 A2 (idsU F i).length c2 (ivs (idsU F i)))
    (fun s _ => (m' + 1 - s.2.2.2.1).toNat) ?_ _ _ ⟨Fr.refl _ _, 0, none, 0, by omega, rfl, Row.nil _ _ _ _⟩)
  rintro s u C3 ⟨hf, i, A2, c2, hi, rfl, h2⟩ hC3 _
  have hlen := idsU_len hb i
  have hi2 : i * 349525 ≤ 349526 * 349525 := Nat.mul_le_mul_right _ (by omega)
  refine vIf_mk (fun hlt => ?_) (fun hge => ?_)
  · have hlt2 : (i : Int) < ((m' + 1 : Nat) : Int) := of_decide_eq_true hlt
    refine ⟨[.slice A m c, .slice A' m' c'], rfl, rec_rd (r1.fr hf (fun h => h)), (beh_calls _ F (i : Int) u (h1.fr0 hf) hb).mono ?_⟩
    rintro r u2 ⟨f2, A3, c3, rfl, h3⟩
    have hbl := behF_len F (i : Nat)
    have hU : idsU F (i + 1) = idsU F i ++ (behF F (i : Nat)).map (·.2) := rfl
    generalize behF F ((i : Nat) : Int) = l at h3 hbl hU ⊢
    have h2' := f2.row h2 (fun _ _ h => h)
    refine ⟨_, _, _, rfl, jnC_mk (loop_rule (fun s v => Fr (fun _ => False) w1 v ∧ NSl v A3 l.length l ∧ ∃ (j : Nat) (A4 : Option Addr) (c4 : Nat), j ≤ l.length ∧ s = ((b, 0), (A4, (idsU F i).length + j, c4), ((m' + 1 : Nat) : Int), (i : Int), (A3, l.length, c3), ((l.length : Nat) : Int), (j : Int), ()) ∧ Row v w1.heap.size 3 1 A4 ((idsU F i).length + j) c4 (ivs (idsU F i ++ (l.take j).map (·.2))) ∧ (∀ k, blkOf A4 = some k → blkOf A3 ≠ some k))
      (fun s _ => (l.length - s.2.2.2.2.2.2.1).toNat) ?_ _ _ ⟨hf.trans1 f2, h3.sl, 0, A2, c2, by omega, rfl, by simpa using h2', fun k hk h => by have := (h2.blt hk).2; have := (h3.1.blt h).1; omega⟩)⟩
    rintro s v C6 ⟨fv, hl, j, A4, c4, hj, rfl, h4, hne⟩ hC6 _
    refine vIf_mk (fun hlt => ?_) (fun hge => ?_)
    · have hlt3 : (j : Int) < (l.length : Int) := of_decide_eq_true hlt
      have gj : l[j]? = some (l[j]'(by omega)) := List.getElem?_eq_getElem (by omega)
      generalize l[j]'(by omega) = x at gj
      have hst := snd_step gj
      refine n_rd hl gj rfl (nw_mk (gd_mk rfl ?_))
      have q1 : Fr (fun _ => False) v (v.alloc (.cells [Value.string (⟨#[]⟩ : ByteArray), Value.int .i64 0].toArray 94)) := Fr.alloc _ _ _
      have s1 := RecAt.new v [Value.string (⟨#[]⟩ : ByteArray), Value.int .i64 0] 94
      have hb15 : ∀ k, k < v.heap.size → k ≠ v.heap.size := fun k hk => by omega
      have hA4b : ∀ k, blkOf A4 = some k → k ≠ v.heap.size := fun k hk => hb15 k (h4.blt hk).2
      have hA3b : l.length ≠ 0 → ∀ k, blkOf A3 = some k → k ≠ v.heap.size := fun h0 k hk => hb15 k (hl.1.blt (by decide) h0 hk)
      generalize hbb : v.heap.size = b15 at s1 hA4b hA3b ⊢
      generalize v.alloc (.cells [Value.string (⟨#[]⟩ : ByteArray), Value.int .i64 0].toArray 94) = v1 at q1 s1 ⊢
      refine fo_st s1 (by rfl) (encN_o.one x) (fun v2 q2 s2 => ⟨x.2, s2.cell rfl, ?_⟩)
      have hl1 := hl.fr0 q1
      have h41 := q1.row h4 (fun _ _ h => h)
      have hl2 : NSl v2 A3 l.length l := ⟨q2.sl hl1.1 hA3b, hl1.2⟩
      have h42 := q2.row h41 hA4b
      have fv2 : Fr (fun _ => False) w1 v2 := (fv.trans1 q1).trans q2 (fun _ _ h => h) (fun k hk h => by have := fv.size; omega)
      refine push_int2 h42 (by have := fv2.size; omega) (by dsimp only; omega) (fun A5 c5 v3 h5 q3 hA5 => jnC_mk (hC6 _ _ ⟨?_, ?_, j + 1, A5, c5, by omega, by rw [ei j (by omega)]; rfl, ?_, ?_⟩ ?_))
      · exact fr_own fv2 (fun k hk => (h42.blt hk).1) (Nat.le_refl _) q3
      · exact ⟨q3.sl hl2.1 (fun _ k hk h => hne k h hk), hl2.2⟩
      · rw [hst, ← List.append_assoc]; exact h5
      · intro k hk h
        rcases hA5 k hk with h' | h'
        · exact hne k h' h
        · have := hl2.1.blt (by decide) (by omega) h
          omega
      · show ((l.length : Int) - IntKind.wrap .i64 ((j : Int) + 1)).toNat < ((l.length : Int) - (j : Int)).toNat
        rw [ei j (by omega)]; omega
    · have hge3 : ¬ (j : Int) < (l.length : Int) := of_decide_eq_false hge
      have hjl : j = l.length := by omega
      subst hjl
      rw [List.take_length, ← hU] at h4
      have hUl : (idsU F i).length + l.length = (idsU F (i + 1)).length := by rw [hU]; simp
      rw [hUl] at h4
      refine jnC_mk (hC3 _ _ ⟨fv, i + 1, A4, c4, by omega, ?_, h4⟩ ?_)
      · dsimp only; rw [hUl, ei i (by omega)]
      · show ((m' : Int) + 1 - IntKind.wrap .i64 ((i : Int) + 1)).toNat < ((m' : Int) + 1 - (i : Int)).toNat
        rw [ei i (by omega)]; omega
  · have hge2 : ¬ (i : Int) < ((m' + 1 : Nat) : Int) := of_decide_eq_false hge
    have him : i = F.P.length + 1 := by omega
    subst him
    refine (sc_calls w1.heap.size A2 _ c2 _ u h2 (by omega)).mono ?_
    rintro r u2 ⟨rfl, h⟩
    refine ⟨rfl, h.mono ?_⟩
    rintro r u3 ⟨f3, rfl, h3⟩
    exact ⟨_, _, _, rfl, f1.trans1 (fr_own hf (fun k hk => (h2.blt hk).1) (Nat.le_refl _) f3), A2, c2, rfl, row_low hs1 h3⟩
set_option maxHeartbeats 1000000 in
theorem rids_calls (cs : List Value) (F : Fo) (w : World) (h : FoAt w cs F) (hb : FoB F) :
    Calls Tryz.prog 105 #[ofL cs] w fun e w' => Fr (fun _ => False) w w' ∧ ∃ A' c', e = .returned (.slice A' (idsF F).length c') ∧ Row w' w.heap.size 3 1 A' (idsF F).length c' (ivs (idsF F)) := by
  refine (F105.of cs w (Q := fun v w' => Fr (fun _ => False) w w' ∧ ∃ A' c', v = .slice A' (idsF F).length c' ∧ Row w' w.heap.size 3 1 A' (idsF F).length c' (ivs (idsF F))) ?_).mono (fun e w' ⟨v, he, hf, A', c', hv, h⟩ => ⟨hf, A', c', by rw [he, hv], h⟩)
  have hb' : F.L.length + F.P.length ≤ 349525 := hb
  refine fo_new (fun b w1 f1 _ r1 => ?_)
  have h1 := h.fr0 f1
  have hcl := h.len
  obtain ⟨A, m, c, A', m', c', rfl, hL, hP, hPc⟩ := h
  have hPl := hP.2
  have hs1 := f1.size
  refine jnC_mk (loop_rule (fun s u => Fr (fun _ => False) w1 u ∧ ∃ (i : Nat) (A2 : Option Addr) (c2 : Nat), i ≤ m' + 1 ∧ s = ((b, 0), (A2, (norm (idsU F i)).length, c2), (i : Int), ()) ∧ Row u w1.heap.size 3 1 A2 (norm (idsU F i)).length c2 (ivs (norm (idsU F i))))
    (fun s _ => (m' + 1 - s.2.2.1).toNat) ?_ _ _ ⟨Fr.refl _ _, 0, none, 0, by omega, rfl, Row.nil _ _ _ _⟩)
  rintro s u C3 ⟨hf, i, A2, c2, hi, rfl, h2⟩ hC3 _
  have hlen := idsU_len hb i
  have hi2 : i * 349525 ≤ 349526 * 349525 := Nat.mul_le_mul_right _ (by omega)
  refine ⟨A', m', c', (r1.fr hf (fun h => h)).cell rfl, vIf_mk (fun hlt => ?_) (fun hge => ?_)⟩
  · have hlt2 : (i : Int) ≤ (m' : Int) := of_decide_eq_true hlt
    refine ⟨[.slice A m c, .slice A' m' c'], rfl, rec_rd (r1.fr hf (fun h => h)), (rbeh_calls _ F (i : Int) u (h1.fr0 hf) hb).mono ?_⟩
    rintro r u2 ⟨f2, A3, c3, rfl, h3⟩
    have hbl := behF_len F (i : Nat)
    have hU : idsU F (i + 1) = idsU F i ++ (behF F (i : Nat)).map (·.2) := rfl
    generalize behF F ((i : Nat) : Int) = l at h3 hbl hU ⊢
    have h2' := f2.row h2 (fun _ _ h => h)
    refine ⟨_, _, _, rfl, jnC_mk (loop_rule (fun s v => Fr (fun _ => False) w1 v ∧ NSl v A3 l.length l ∧ ∃ (j : Nat) (A4 : Option Addr) (c4 : Nat), j ≤ l.length ∧ s = ((b, 0), (A4, (norm (idsU F i ++ (l.take j).map (·.2))).length, c4), (i : Int), (A3, l.length, c3), (j : Int), ()) ∧ Row v w1.heap.size 3 1 A4 (norm (idsU F i ++ (l.take j).map (·.2))).length c4 (ivs (norm (idsU F i ++ (l.take j).map (·.2)))))
      (fun s _ => (l.length - s.2.2.2.2.1).toNat) ?_ _ _ ⟨hf.trans1 f2, h3.sl, 0, A2, c2, by omega, by simp, by simpa using h2'⟩)⟩
    rintro s v C6 ⟨fv, hl, j, A4, c4, hj, rfl, h4⟩ hC6 _
    refine vIf_mk (fun hlt => ?_) (fun hge => ?_)
    · have hlt3 : (j : Int) < (l.length : Int) := of_decide_eq_true hlt
      have gj : l[j]? = some (l[j]'(by omega)) := List.getElem?_eq_getElem (by omega)
      generalize l[j]'(by omega) = x at gj
      have hst := snd_step gj
      have hnl := norm_len (idsU F i ++ (l.take j).map (·.2))
      rw [List.length_append, List.length_map, List.length_take] at hnl
      refine n_rdI hl gj rfl ((add_calls A4 _ c4 _ x.2 v h4.sl (by omega)).mono ?_)
      rintro r v2 ⟨q2, A5, c5, rfl, h5⟩
      have hadd : addI (norm (idsU F i ++ (l.take j).map (·.2))) x.2 = norm (idsU F i ++ (l.take (j + 1)).map (·.2)) := by rw [hst, ← List.append_assoc, norm_snoc]
      rw [hadd] at h5 ⊢
      refine ⟨_, _, _, rfl, jnC_mk (hC6 _ _ ⟨fv.trans1 q2, hl.fr0 q2, j + 1, A5, c5, by omega, by rw [ei j (by omega)], row_low fv.size h5⟩ ?_)⟩
      show ((l.length : Int) - IntKind.wrap .i64 ((j : Int) + 1)).toNat < ((l.length : Int) - (j : Int)).toNat
      rw [ei j (by omega)]; omega
    · have hge3 : ¬ (j : Int) < (l.length : Int) := of_decide_eq_false hge
      have hjl : j = l.length := by omega
      subst hjl
      rw [List.take_length, ← hU] at h4 ⊢
      refine jnC_mk (hC3 _ _ ⟨fv, i + 1, A4, c4, by omega, by rw [ei i (by omega)], h4⟩ ?_)
      show ((m' : Int) + 1 - IntKind.wrap .i64 ((i : Int) + 1)).toNat < ((m' : Int) + 1 - (i : Int)).toNat
      rw [ei i (by omega)]; omega
  · have hge2 : ¬ (i : Int) ≤ (m' : Int) := of_decide_eq_false hge
    have him : i = F.P.length + 1 := by omega
    subst him
    exact ⟨f1.trans1 hf, A2, c2, rfl, row_low hs1 h2⟩
end Go.Proofs.YtfdhaeglhkmmpaaGreat
/- rows of records: each lies in so many cells, and is told by them and what they lead to -/
namespace Go.Proofs.YtfdhaeglhkmmpaaGreat
open Go.GV Go.RowKit Go.Lib
set_option linter.unusedVariables false
set_option linter.unusedSimpArgs false
def chk (sz : Nat) (vs : List Value) (i : Nat) : List Value := (vs.drop (i * sz)).take sz
theorem chk_l {sz : Nat} {vs us : List Value} {i : Nat} (h : (i + 1) * sz ≤ vs.length) : chk sz (vs ++ us) i = chk sz vs i := by
  rw [Nat.add_mul] at h
  unfold chk
  rw [List.drop_append_of_le_length (by omega), List.take_append_of_le_length (by rw [List.length_drop]; omega)]
theorem chk_r {sz : Nat} {vs us : List Value} {n j : Nat} (h : vs.length = n * sz) : chk sz (vs ++ us) (n + j) = chk sz us j := by
  unfold chk
  rw [Nat.add_mul, ← h, List.drop_append, List.drop_of_length_le (by omega), List.nil_append]
  congr 2; omega
theorem chk_one {sz : Nat} {cs : List Value} (h : cs.length = sz) : chk sz cs 0 = cs := by
  unfold chk
  rw [Nat.zero_mul, List.drop_zero, List.take_of_length_le (by omega)]
theorem chk_get {sz : Nat} {vs : List Value} {i j : Nat} (hj : j < sz) : (chk sz vs i)[j]? = vs[i * sz + j]? := by
  unfold chk
  rw [List.getElem?_take, if_pos hj, List.getElem?_drop]
theorem chk_len {sz : Nat} {vs : List Value} {n i : Nat} (h : vs.length = n * sz) (hi : i < n) : (chk sz vs i).length = sz := by
  have hm : (i + 1) * sz ≤ n * sz := Nat.mul_le_mul_right _ hi
  rw [Nat.add_mul] at hm
  unfold chk
  rw [List.length_take, List.length_drop]; omega
/-- each record of a row is told by its cells -/
def Ech {α : Type} (sz : Nat) (P : List Value → α → Prop) (vs : List Value) (l : List α) : Prop := ∀ i x, l[i]? = some x → P (chk sz vs i) x
theorem Ech.nil {α : Type} {sz : Nat} {P : List Value → α → Prop} {vs : List Value} : Ech sz P vs ([] : List α) := fun i x h => by simp at h
theorem Ech.snoc {α : Type} {sz : Nat} {P : List Value → α → Prop} {vs cs : List Value} {l : List α} {x : α} {n : Nat} (h : Ech sz P vs l) (hv : vs.length = n * sz) (hl : l.length = n) (hc : cs.length = sz) (hx : P cs x) : Ech sz P (vs ++ cs) (l ++ [x]) := by
  intro i y hy
  have hi := (List.getElem?_eq_some_iff.1 hy).1
  rw [List.length_append, List.length_singleton] at hi
  by_cases hin : i < n
  · rw [List.getElem?_append_left (by omega)] at hy
    rw [chk_l (by rw [hv]; exact Nat.mul_le_mul_right _ hin)]
    exact h i y hy
  · have e : i = n + 0 := by omega
    rw [e, chk_r hv, chk_one hc]
    rw [List.getElem?_append_right (by omega)] at hy
    rw [show i - l.length = 0 by omega, List.getElem?_cons_zero] at hy
    injection hy with hy
    subst hy; exact hx
theorem Ech.mono {α : Type} {sz : Nat} {P Q : List Value → α → Prop} {vs : List Value} {l : List α} (h : Ech sz P vs l) (hPQ : ∀ cs x, P cs x → Q cs x) : Ech sz Q vs l := fun i x hi => hPQ _ _ (h i x hi)
theorem Ech.app {α : Type} {sz : Nat} {P : List Value → α → Prop} {vs us : List Value} {l r : List α} {n : Nat} (h : Ech sz P vs l) (k : Ech sz P us r) (hv : vs.length = n * sz) (hl : l.length = n) : Ech sz P (vs ++ us) (l ++ r) := by
  intro i y hy
  by_cases hin : i < n
  · rw [List.getElem?_append_left (by omega)] at hy
    rw [chk_l (by rw [hv]; exact Nat.mul_le_mul_right _ hin)]
    exact h i y hy
  · rw [List.getElem?_append_right (by omega), hl] at hy
    rw [show i = n + (i - n) by omega, chk_r hv]
    exact k _ y hy
/-- the cells of one -/
theorem ech_rd {α : Type} {sz : Nat} {P : List Value → α → Prop} {w : World} {A : Option Addr} {n : Nat} {vs : List Value} {l : List α} (h : Sl w sz A n vs) (he : Ech sz P vs l) (hsz : sz ≠ 0) {i : Nat} {x : α} (hi : l[i]? = some x) (hin : i < n) :
    ∃ b o, A = some ⟨b, o, none⟩ ∧ cellsAt w b (o + i * sz) (chk sz vs i) ∧ (chk sz vs i).length = sz ∧ P (chk sz vs i) x := by
  have hl := h.1
  have hm : (i + 1) * sz ≤ n * sz := Nat.mul_le_mul_right _ hin
  rw [Nat.add_mul] at hm
  obtain ⟨b, o, hA, hc⟩ := h.2 (by omega)
  refine ⟨b, o, hA, fun j v hj => ?_, chk_len hl hin, he i x hi⟩
  have hjl := (List.getElem?_eq_some_iff.1 hj).1
  rw [chk_len hl hin] at hjl
  rw [chk_get hjl] at hj
  rw [Nat.add_assoc]
  exact hc _ v hj
/-- an element of a row, read whole -/
theorem el_all {α : Type} {sz : Nat} {P : List Value → α → Prop} {w : World} {A : Option Addr} {n : Nat} {vs : List Value} {l : List α} (h : Sl w sz A n vs) (he : Ech sz P vs l) (hsz : sz ≠ 0) {i : Nat} {x : α} (hi : l[i]? = some x) (hin : i < n) {K : List Value → Prop} (hK : ∀ cs, cs.length = sz → P cs x → K cs) :
    dr A fun b o => gd (decide (0 ≤ (i : Int))) (gd (decide ((i : Int) < ((n : Nat) : Int))) (ldA sz w b (o + ((i : Int)).toNat * sz) K)) := by
  obtain ⟨b, o, rfl, h1, h2, h3⟩ := ech_rd h he hsz hi hin
  refine dr_mk (gd_mk (decide_eq_true (by omega)) (gd_mk (decide_eq_true (by omega)) ⟨_, h2, ?_, hK _ h2 h3⟩))
  rw [Int.toNat_natCast]; exact h1
end Go.Proofs.YtfdhaeglhkmmpaaGreat
/- chapters 09 and 10, plainly: changes of bytes, what survives, how long a file may have been -/
namespace Go.Proofs.YtfdhaeglhkmmpaaGreat
open Go.GV
set_option linter.unusedVariables false
set_option linter.unusedSimpArgs false
abbrev Bs := List UInt8
/-- a change -/
structure Wr where
  cut : Bool
  off : Int
  data : Bs
def rightW (x : Wr) : Bool := decide (x.off ≥ 0) && decide (x.off ≤ 1048576 - (x.data.length : Int))
/-- bytes over bytes, from a place on -/
def over (b : Bs) (o : Nat) (d : Bs) : Bs := (b ++ List.replicate (o - b.length) 0).take o ++ d ++ b.drop (o + d.length)
def applyW (b : Bs) (x : Wr) : Bs :=
  if rightW x = false ∨ (x.cut = false ∧ x.data = []) then b
  else if x.cut then b.take x.off.toNat
  else over b x.off.toNat x.data
def allW (b : Bs) (l : List Wr) : Bs := l.foldl applyW b
/-- what survives of a change -/
def partW (x : Wr) (c : UInt8) : Wr := if c.toNat < 255 ∧ c.toNat < x.data.length then { x with data := x.data.take c.toNat } else x
def survS (b : Bs) (x : Wr) (c : UInt8) : Bs := if c = 0 ∨ rightW x = false then b else applyW b (partW x c)
def survW : Bs → List Wr → Bs → Bs
  | b, [], _ => b
  | b, _ :: _, [] => b
  | b, x :: l, c :: r => survW (survS b x c) l r
def endW (n : Int) (x : Wr) : Int := if rightW x = true ∧ x.cut = false ∧ x.data ≠ [] then (if n < x.off + (x.data.length : Int) then x.off + (x.data.length : Int) else n) else n
def peakW (n : Int) (l : List Wr) : Int := l.foldl endW n
theorem over_len (b : Bs) (o : Nat) (d : Bs) : (over b o d).length = max b.length (o + d.length) := by
  unfold over
  simp only [List.length_append, List.length_take, List.length_drop, List.length_replicate]
  omega
theorem over_get (b : Bs) (o : Nat) (d : Bs) (j : Nat) : (over b o d)[j]? = if j < o then (if j < b.length then b[j]? else some 0) else if j < o + d.length then d[j - o]? else b[j]? := by
  have hl : ((b ++ List.replicate (o - b.length) (0 : UInt8)).take o).length = o := by
    rw [List.length_take, List.length_append, List.length_replicate]; omega
  unfold over
  by_cases h1 : j < o
  · rw [if_pos h1, List.append_assoc, List.getElem?_append_left (by rw [hl]; exact h1), List.getElem?_take, if_pos h1]
    by_cases h2 : j < b.length
    · rw [if_pos h2, List.getElem?_append_left h2]
    · rw [if_neg h2, List.getElem?_append_right (by omega), List.getElem?_replicate, if_pos (by omega)]
  · rw [if_neg h1]
    by_cases h2 : j < o + d.length
    · rw [if_pos h2, List.append_assoc, List.getElem?_append_right (by rw [hl]; omega), hl, List.getElem?_append_left (by omega)]
    · rw [if_neg h2, List.getElem?_append_right (by rw [List.length_append, hl]; omega), List.length_append, hl, List.getElem?_drop]
      congr 1; omega
theorem right_iff {x : Wr} : rightW x = true ↔ 0 ≤ x.off ∧ x.off ≤ 1048576 - (x.data.length : Int) := by
  unfold rightW
  rw [Bool.and_eq_true, decide_eq_true_iff, decide_eq_true_iff]
theorem endW_ge (n : Int) (x : Wr) : n ≤ endW n x := by
  unfold endW
  split
  · split <;> omega
  · omega
theorem endW_mono {m n : Int} (h : m ≤ n) (x : Wr) : endW m x ≤ endW n x := by
  unfold endW
  split
  · split <;> split <;> omega
  · exact h
theorem peakW_ge (l : List Wr) : ∀ n : Int, n ≤ peakW n l := by
  induction l with
  | nil => intro n; exact Int.le_refl _
  | cons x l ih => intro n; exact Int.le_trans (endW_ge n x) (ih _)
theorem peakW_mono (l : List Wr) : ∀ {m n : Int}, m ≤ n → peakW m l ≤ peakW n l := by
  induction l with
  | nil => intro m n h; exact h
  | cons x l ih => intro m n h; exact ih (endW_mono h x)
theorem peakW_snoc (n : Int) (l : List Wr) (x : Wr) : peakW n (l ++ [x]) = endW (peakW n l) x := by simp [peakW]
theorem allW_snoc (b : Bs) (l : List Wr) (x : Wr) : allW b (l ++ [x]) = applyW (allW b l) x := by simp [allW]
theorem endW_le {n : Int} (h : n ≤ 1048576) (x : Wr) : endW n x ≤ 1048576 := by
  unfold endW
  split
  · rename_i hx
    have := right_iff.1 hx.1
    split <;> omega
  · exact h
theorem peakW_le (l : List Wr) : ∀ {n : Int}, n ≤ 1048576 → peakW n l ≤ 1048576 := by
  induction l with
  | nil => intro n h; exact h
  | cons x l ih => intro n h; exact ih (endW_le h x)
theorem applyW_len (b : Bs) (x : Wr) : ((applyW b x).length : Int) ≤ endW b.length x := by
  unfold applyW
  by_cases h : rightW x = false ∨ (x.cut = false ∧ x.data = [])
  · rw [if_pos h]; exact endW_ge _ _
  · rw [if_neg h]
    have h1 : rightW x = true := by
      cases hr : rightW x with
      | true => rfl
      | false => exact absurd (.inl hr) h
    by_cases hc : x.cut = true
    · rw [if_pos hc]
      have := endW_ge (b.length : Int) x
      rw [List.length_take]; omega
    · rw [if_neg hc, over_len]
      have hc : x.cut = false := by simpa using hc
      have hd : x.data ≠ [] := fun hd => h (.inr ⟨hc, hd⟩)
      unfold endW
      rw [if_pos ⟨h1, hc, hd⟩]
      have := right_iff.1 h1
      split <;> omega
theorem allW_len (l : List Wr) : ∀ b : Bs, ((allW b l).length : Int) ≤ peakW b.length l := by
  induction l with
  | nil => intro b; exact Int.le_refl _
  | cons x l ih =>
    intro b
    exact Int.le_trans (ih (applyW b x)) (peakW_mono l (applyW_len b x))
theorem endW_pos {n : Int} {x : Wr} (h : rightW x = true ∧ x.cut = false ∧ x.data ≠ []) : endW n x = if n < x.off + (x.data.length : Int) then x.off + (x.data.length : Int) else n := if_pos h
theorem endW_neg {n : Int} {x : Wr} (h : ¬ (rightW x = true ∧ x.cut = false ∧ x.data ≠ [])) : endW n x = n := if_neg h
theorem partW_end (n : Int) (x : Wr) (c : UInt8) (h : rightW x = true) : endW n (partW x c) ≤ endW n x := by
  unfold partW
  by_cases hc : c.toNat < 255 ∧ c.toNat < x.data.length
  · rw [if_pos hc]
    by_cases h2 : rightW { x with data := x.data.take c.toNat } = true ∧ x.cut = false ∧ x.data.take c.toNat ≠ []
    · have hd : x.data ≠ [] := fun e => by
        have := hc.2
        rw [e] at this
        simp at this
      have hl : (List.take c.toNat x.data).length = c.toNat := by rw [List.length_take]; omega
      rw [endW_pos (x := { x with data := x.data.take c.toNat }) h2, endW_pos ⟨h, h2.2.1, hd⟩]
      show (if n < x.off + ((List.take c.toNat x.data).length : Int) then x.off + ((List.take c.toNat x.data).length : Int) else n) ≤ _
      rw [hl]
      split <;> split <;> omega
    · rw [endW_neg (x := { x with data := x.data.take c.toNat }) h2]
      exact endW_ge n x
  · rw [if_neg hc]; exact Int.le_refl _
theorem survS_len (b : Bs) (x : Wr) (c : UInt8) : ((survS b x c).length : Int) ≤ endW b.length x := by
  unfold survS
  split
  · exact endW_ge _ _
  · rename_i h
    have h1 : rightW x = true := by
      cases hr : rightW x with
      | true => rfl
      | false => exact absurd (.inr hr) h
    exact Int.le_trans (applyW_len b _) (partW_end _ x c h1)
theorem survW_len : ∀ (l : List Wr) (b c : Bs), ((survW b l c).length : Int) ≤ peakW b.length l
  | [], b, c => by cases c <;> exact Int.le_refl _
  | x :: l, b, [] => by
    have := peakW_ge (x :: l) (b.length : Int)
    exact this
  | x :: l, b, c :: r => Int.le_trans (survW_len l (survS b x c) r) (peakW_mono l (survS_len b x c))
/-! ### files -/
structure Ino where
  b : Bs
  p : List Wr
def nowI (x : Ino) : Bs := allW x.b x.p
def roomI (x : Ino) : Int := peakW x.b.length x.p
/-- a file that may be -/
structure InoB (x : Ino) : Prop where
  b : x.b.length ≤ 1048576
  d : ∀ y ∈ x.p, y.data.length ≤ 1048576
theorem now_le {x : Ino} (h : InoB x) : (nowI x).length ≤ 1048576 := by
  have h1 := allW_len x.p x.b
  have h2 := peakW_le x.p (n := (x.b.length : Int)) (by have := h.b; omega)
  unfold nowI
  omega
theorem room_le {x : Ino} (h : InoB x) : (x.b.length : Int) ≤ roomI x ∧ roomI x ≤ 1048576 := ⟨peakW_ge x.p _, peakW_le x.p (by have := h.b; omega)⟩
def appI (x : Ino) (b : Bs) : Ino × Int :=
  if (b.length : Int) > 1048576 - ((nowI x).length : Int) then (x, 18)
  else if b = [] then (x, 0)
  else (⟨x.b, x.p ++ [⟨false, ((nowI x).length : Int), b⟩]⟩, 0)
def cutI (x : Ino) (n : Int) : Ino × Int :=
  if n < 0 ∨ n > ((nowI x).length : Int) then (x, 20) else (⟨x.b, x.p ++ [⟨true, n, []⟩]⟩, 0)
def syncI (x : Ino) : Ino := ⟨nowI x, []⟩
def crashI (x : Ino) (c : Bs) : Ino × Bs := (⟨survW x.b x.p c, []⟩, c.drop x.p.length)
end Go.Proofs.YtfdhaeglhkmmpaaGreat
/- chapters 09 and 10: how changes and files lie; what a strange block leaves alone -/
namespace Go.Proofs.YtfdhaeglhkmmpaaGreat
open Go.GV Go.RowKit Go.Lib
set_option linter.unusedVariables false
set_option linter.unusedSimpArgs false
abbrev bys (b : Bs) : List Value := b.map bv
/-- a change as it lies -/
def WrP (w : World) (cs : List Value) (x : Wr) : Prop := ∃ (B : Option Addr) (m k : Nat), cs = [.bool x.cut, .int .i64 x.off, .slice B m k] ∧ Sl w 1 B m (bys x.data) ∧ m ≤ k
/-- changes as they lie -/
def WSl (w : World) (A : Option Addr) (n : Nat) (l : List Wr) : Prop := ∃ vs, Sl w 3 A n vs ∧ l.length = n ∧ Ech 3 (WrP w) vs l
/-- a file as it lies -/
def InoAt (w : World) (cs : List Value) (x : Ino) : Prop := ∃ (A : Option Addr) (n c : Nat) (A' : Option Addr) (n' c' : Nat), cs = [.slice A n c, .slice A' n' c'] ∧ Sl w 1 A n (bys x.b) ∧ n ≤ c ∧ WSl w A' n' x.p ∧ n' ≤ c'
theorem by_n {w : World} {A : Option Addr} {n : Nat} {b : Bs} (h : Sl w 1 A n (bys b)) : b.length = n := by
  have := h.1
  simp [bys] at this
  omega
/-- a block in which nothing of these lies -/
structure Alien (w : World) (b : Nat) : Prop where
  s : ∀ o x, cellAt w b o ≠ some (.string x)
  u : ∀ o x, cellAt w b o ≠ some (.int .u8 x)
  t : ∀ o t x A n c, ¬ (cellAt w b o = some (.bool t) ∧ cellAt w b (o + 1) = some (.int .i64 x) ∧ cellAt w b (o + 2) = some (.slice A n c))
theorem by_ne {w : World} {A : Option Addr} {n : Nat} {b : Bs} (h : Sl w 1 A n (bys b)) (h0 : n ≠ 0) {k : Nat} (hk : blkOf A = some k) : ¬ Alien w k := by
  intro ha
  have hl := by_n h
  obtain ⟨b', o, rfl, hc⟩ := h.2 (by omega)
  injection hk with hk
  have hk : b' = k := hk
  subst hk
  cases hb : b with
  | nil => rw [hb] at hl; simp at hl; omega
  | cons x r => exact ha.u (o + 0) x.toNat (hc 0 _ (by rw [hb]; rfl))
theorem by_fr {S : Nat → Prop} {w w' : World} {A : Option Addr} {n : Nat} {b : Bs} (h : Sl w 1 A n (bys b)) (f : Fr S w w') (hS : ∀ k, S k → Alien w k) : Sl w' 1 A n (bys b) :=
  f.sl h (fun h0 k hk hs => by_ne h h0 hk (hS k hs))
theorem WrP.fr {S : Nat → Prop} {w w' : World} {cs : List Value} {x : Wr} (h : WrP w cs x) (f : Fr S w w') (hS : ∀ k, S k → Alien w k) : WrP w' cs x := by
  obtain ⟨B, m, k, e, h1, h2⟩ := h
  exact ⟨B, m, k, e, by_fr h1 f hS, h2⟩
theorem WSl.fr {S : Nat → Prop} {w w' : World} {A : Option Addr} {n : Nat} {l : List Wr} (h : WSl w A n l) (f : Fr S w w') (hS : ∀ k, S k → Alien w k) : WSl w' A n l := by
  obtain ⟨vs, h1, h2, h3⟩ := h
  refine ⟨vs, f.sl h1 (fun h0 k hk hs => ?_), h2, h3.mono (fun cs x hx => hx.fr f hS)⟩
  have ha := hS k hs
  have hn : 0 < n := by omega
  have gx : l[0]? = some (l[0]'(by omega)) := List.getElem?_eq_getElem (by omega)
  obtain ⟨b, o, rfl, hc, hl, B, m, k', e, _⟩ := ech_rd h1 h3 (by omega) gx hn
  injection hk with hk
  have hk : b = k := hk
  subst hk
  rw [e] at hc
  have c0 : cellAt w b (o + 0 * 3 + 0) = some (.bool (l[0]'(by omega)).cut) := hc 0 _ rfl
  have c1 : cellAt w b (o + 0 * 3 + 0 + 1) = some (.int .i64 (l[0]'(by omega)).off) := hc 1 _ rfl
  have c2 : cellAt w b (o + 0 * 3 + 0 + 2) = some (.slice B m k') := hc 2 _ rfl
  exact ha.t _ _ _ _ _ _ ⟨c0, c1, c2⟩
theorem InoAt.fr {S : Nat → Prop} {w w' : World} {cs : List Value} {x : Ino} (h : InoAt w cs x) (f : Fr S w w') (hS : ∀ k, S k → Alien w k) : InoAt w' cs x := by
  obtain ⟨A, n, c, A', n', c', e, h1, h2, h3, h4⟩ := h
  exact ⟨A, n, c, A', n', c', e, by_fr h1 f hS, h2, h3.fr f hS, h4⟩
theorem InoAt.fr0 {w w' : World} {cs : List Value} {x : Ino} (h : InoAt w cs x) (f : Fr (fun _ => False) w w') : InoAt w' cs x := h.fr f (fun _ h => h.elim)
theorem WSl.fr0 {w w' : World} {A : Option Addr} {n : Nat} {l : List Wr} (h : WSl w A n l) (f : Fr (fun _ => False) w w') : WSl w' A n l := h.fr f (fun _ h => h.elim)
theorem WrP.fr0 {w w' : World} {cs : List Value} {x : Wr} (h : WrP w cs x) (f : Fr (fun _ => False) w w') : WrP w' cs x := h.fr f (fun _ h => h.elim)
/-- folders, too -/
theorem nsl_fr {S : Nat → Prop} {w w' : World} {A : Option Addr} {n : Nat} {l : List Nm} (h : NSl w A n l) (f : Fr S w w') (hS : ∀ k, S k → Alien w k) : NSl w' A n l := by
  refine ⟨f.sl h.1 (fun h0 k hk hs => ?_), h.2⟩
  have ha := hS k hs
  have hl := h.2
  obtain ⟨b, o, rfl, hc⟩ := h.1.2 (by omega)
  injection hk with hk
  have hk : b = k := hk
  subst hk
  cases hb : l with
  | nil => rw [hb] at hl; simp at hl; omega
  | cons x r => exact ha.s (o + 0) x.1 (hc 0 _ (by rw [hb, flt_cons]; rfl))
theorem csl_fr {S : Nat → Prop} {w w' : World} {A : Option Addr} {n : Nat} {l : List Ch} (h : CSl w A n l) (f : Fr S w w') (hS : ∀ k, S k → Alien w k) : CSl w' A n l := by
  refine ⟨f.sl h.1 (fun h0 k hk hs => ?_), h.2⟩
  have ha := hS k hs
  have hl := h.2
  obtain ⟨b, o, rfl, hc⟩ := h.1.2 (by omega)
  injection hk with hk
  have hk : b = k := hk
  subst hk
  cases hb : l with
  | nil => rw [hb] at hl; simp at hl; omega
  | cons x r => exact ha.s (o + 1) x.nm (hc 1 _ (by rw [hb, flt_cons]; rfl))
theorem fo_fr {S : Nat → Prop} {w w' : World} {cs : List Value} {F : Fo} (h : FoAt w cs F) (f : Fr S w w') (hS : ∀ k, S k → Alien w k) : FoAt w' cs F := by
  obtain ⟨A, n, c, A', n', c', e, h1, h2, h3⟩ := h
  exact ⟨A, n, c, A', n', c', e, nsl_fr h1 f hS, csl_fr h2 f hS, h3⟩
/-- a map's block is strange -/
theorem map_alien {w : World} {r : Nat} {f : Int → Option Value} (h : MapI w r f) : Alien w r := by
  obtain ⟨m, c, h, _⟩ := h
  have h : w.heap[r]? = some (.map (m.map (mkE .i64)).toArray c) := h
  have e : ∀ o, cellAt w r o = none := fun o => by
    unfold cellAt World.cell?
    simp only [h]
  exact ⟨fun o x hx => (by rw [e] at hx; cases hx), fun o x hx => (by rw [e] at hx; cases hx), fun o t x A n c hx => (by rw [e] at hx; cases hx.1)⟩
end Go.Proofs.YtfdhaeglhkmmpaaGreat
/- chapter 09: Right, Apply -/
namespace Go.Proofs.YtfdhaeglhkmmpaaGreat
open Go.GV Go.RowKit Go.Lib
set_option linter.unusedVariables false
set_option linter.unusedSimpArgs false
theorem wr_one {w : World} {cs : List Value} {x : Wr} (h : WrP w cs x) : cs.length = 3 ∧ ∀ v ∈ cs, v.oneCell' = true := by
  obtain ⟨B, m, k, rfl, _⟩ := h
  refine ⟨rfl, fun v hv => ?_⟩
  simp only [List.mem_cons, List.not_mem_nil, or_false] at hv
  rcases hv with rfl | rfl | rfl <;> rfl
theorem sl_nil0 {w : World} {A : Option Addr} {n : Nat} {vs : List Value} (h : Sl w 1 A n vs) (hA : A = none) : n = 0 := by
  by_cases h0 : n = 0
  · exact h0
  · obtain ⟨b, o, h1, _⟩ := h.2 h0
    rw [hA] at h1; cases h1
theorem clone_by (A : Option Addr) (n c : Nat) (b : Bs) (w : World) (h : Sl w 1 A n (bys b)) (hn : n ≤ 1099511627776) :
    Calls Tryz.prog 73 #[.slice A n c] w fun e w' => Fr (fun _ => False) w w' ∧ ∃ A' c', e = .returned (.slice A' n c') ∧ Row w' w.heap.size 5 1 A' n c' (bys b) := by
  refine (F73.of A n c w (Q := fun v w' => Fr (fun _ => False) w w' ∧ ∃ A' c', v = .slice A' n c' ∧ Row w' w.heap.size 5 1 A' n c' (bys b)) ?_).mono (fun e w' ⟨v, he, hf, A', c', hv, h⟩ => ⟨hf, A', c', by rw [he, hv], h⟩)
  have hl := by_n h
  refine vIf_mk (fun hA => ?_) (fun hA => nw_mk ?_)
  · have hA : A = none := by simpa using hA
    have := sl_nil0 h hA
    subst this
    have : b = [] := List.length_eq_zero_iff.1 hl
    subst this
    exact ⟨Fr.refl _ _, none, 0, rfl, Row.nil _ _ _ _⟩
  · have f1 : Fr (fun _ => False) w (w.alloc (.cells ([] : List Value).toArray 5)) := Fr.alloc _ _ _
    have r1 : Row (w.alloc (.cells ([] : List Value).toArray 5)) w.heap.size 5 1 (some ⟨w.heap.size, 0, none⟩) 0 0 [] := Row.new (Nat.le_refl _) rfl
    refine app_row r1 (f1.sl h (fun _ _ _ h => h)).src (bvs_one b) rfl (by omega) (by omega) f1.size ?_
    intro A' c' w2 r2 f2
    rw [Nat.zero_add] at r2 ⊢
    rw [List.nil_append] at r2
    exact ⟨f1.trans f2 (fun _ _ h => h) (fun k hk h => by simp only [blkOf, Option.some.injEq] at h; omega), A', c', rfl, r2⟩
theorem right_calls (cs : List Value) (x : Wr) (w : World) (h : WrP w cs x) (hd : x.data.length ≤ 1099511627776) :
    Calls Tryz.prog 95 #[ofL cs] w fun e w' => e = .returned (.bool (rightW x)) ∧ Fr (fun _ => False) w w' := by
  refine (F95.of cs w (Q := fun v w' => v = .bool (rightW x) ∧ Fr (fun _ => False) w w') ?_).mono (fun e w' ⟨v, he, hv, h⟩ => ⟨by rw [he, hv], h⟩)
  obtain ⟨B, m, k, rfl, h1, h2⟩ := h
  have hm := by_n h1
  refine nw_mk ?_
  have q := RecAt.new w ([.bool x.cut, .int .i64 x.off, .slice B m k] : List Value) 124
  have f1 : Fr (fun _ => False) w (w.alloc (.cells ([.bool x.cut, .int .i64 x.off, .slice B m k] : List Value).toArray 124)) := Fr.alloc _ _ _
  have ew : IntKind.wrap .i64 (1048576 - ((m : Nat) : Int)) = 1048576 - (m : Int) := i64_id (by omega) (by omega)
  refine ⟨_, q.cell (o := 0 + 1) rfl, vIf_mk (fun h => ⟨_, q.cell (o := 0 + 1) rfl, _, _, _, q.cell (o := 0 + 2) rfl, ?_, f1⟩) (fun h => ⟨?_, f1⟩)⟩
  · unfold rightW
    rw [h, Bool.true_and, ew, hm]
  · unfold rightW
    rw [h, Bool.false_and]
/-- bytes over bytes, as cells -/
theorem over_cells (b d : Bs) (o : Nat) : splice (bys b ++ zeros (max b.length (o + d.length) - b.length) [Value.int .u8 0]) o (bys d) = bys (over b o d) := by
  have hl : (bys b ++ zeros (max b.length (o + d.length) - b.length) [Value.int .u8 0]).length = max b.length (o + d.length) := by
    rw [List.length_append, zeros_length]; simp [bys]; omega
  have hfit : o + (bys d).length ≤ (bys b ++ zeros (max b.length (o + d.length) - b.length) [Value.int .u8 0]).length := by
    rw [hl]; simp [bys]; omega
  apply List.ext_getElem?
  intro j
  rw [splice_get hfit]
  have e : (bys (over b o d))[j]? = ((over b o d)[j]?).map bv := by simp [bys]
  rw [e, over_get]
  have hd : (bys d).length = d.length := by simp [bys]
  have hb : (bys b).length = b.length := by simp [bys]
  have zer : ∀ i, i < max b.length (o + d.length) - b.length → (zeros (max b.length (o + d.length) - b.length) [Value.int .u8 0])[i]? = some (bv 0) := fun i hi => by
    have h := zeros_get [Value.int .u8 0] (max b.length (o + d.length) - b.length) i (by simpa using hi)
    rw [h]; simp [Nat.mod_one]; rfl
  rw [hd]
  by_cases h1 : j < o
  · rw [if_pos h1, if_pos h1]
    by_cases h2 : j < b.length
    · rw [if_pos h2, List.getElem?_append_left (by omega)]; simp [bys]
    · rw [if_neg h2]
      rw [List.getElem?_append_right (by omega), hb, zer _ (by omega)]; rfl
  · rw [if_neg h1, if_neg h1]
    by_cases h2 : j < o + d.length
    · rw [if_pos h2, if_pos h2]; simp [bys]
    · rw [if_neg h2, if_neg h2]
      by_cases h3 : j < b.length
      · rw [List.getElem?_append_left (by omega)]; simp [bys]
      · rw [List.getElem?_eq_none (by rw [hl]; omega), List.getElem?_eq_none (by omega)]; rfl
end Go.Proofs.YtfdhaeglhkmmpaaGreat
/- chapter 09: Apply, All, Peak -/
namespace Go.Proofs.YtfdhaeglhkmmpaaGreat
open Go.GV Go.RowKit Go.Lib
set_option linter.unusedVariables false
set_option linter.unusedSimpArgs false
set_option maxHeartbeats 1000000 in
theorem apply_calls (A : Option Addr) (n c : Nat) (b : Bs) (cs : List Value) (x : Wr) (w : World) (h : Sl w 1 A n (bys b)) (hc : n ≤ c) (hx : WrP w cs x) (hn : n ≤ 1099511627776) (hd : x.data.length ≤ 1099511627776) :
    Calls Tryz.prog 130 #[.slice A n c, ofL cs] w fun e w' => Fr (fun _ => False) w w' ∧ ∃ A' c', e = .returned (.slice A' (applyW b x).length c') ∧ Row w' w.heap.size 5 1 A' (applyW b x).length c' (bys (applyW b x)) := by
  refine (F130.of A n c cs w (Q := fun v w' => Fr (fun _ => False) w w' ∧ ∃ A' c', v = .slice A' (applyW b x).length c' ∧ Row w' w.heap.size 5 1 A' (applyW b x).length c' (bys (applyW b x))) ?_).mono (fun e w' ⟨v, he, hf, A', c', hv, h⟩ => ⟨hf, A', c', by rw [he, hv], h⟩)
  have hl := by_n h
  have hone := wr_one hx
  refine nw_mk ?_
  have q := RecAt.new w cs 124
  have f1 : Fr (fun _ => False) w (w.alloc (.cells cs.toArray 124)) := Fr.alloc _ _ _
  have s1 : (w.alloc (.cells cs.toArray 124)).heap.size = w.heap.size + 1 := alloc_size _ _
  generalize hb1 : w.heap.size = b1 at q s1
  generalize w.alloc (.cells cs.toArray 124) = w2 at f1 q s1 ⊢
  refine ⟨cs, hone.1, q.cells (fun j v hj => by rw [Nat.zero_add]; exact hj), (right_calls cs x w2 (hx.fr0 f1) hd).mono ?_⟩
  rintro e w4 ⟨rfl, f4⟩
  have q := q.fr f4 (fun h => h)
  have f := f1.trans1 f4
  have hx4 := hx.fr0 f
  have h4 := f.sl h (fun _ _ _ h => h)
  have hs4 := f.size
  obtain ⟨B, m, k, ecs, hB, hmk⟩ := hx4
  subst ecs
  have hm := by_n hB
  -- nothing is done
  have same : applyW b x = b → jnC (F130.k2 (fun v w' => Fr (fun _ => False) w w' ∧ ∃ A' c', v = .slice A' (applyW b x).length c' ∧ Row w' b1 5 1 A' (applyW b x).length c' (bys (applyW b x)))) ((A, n, c), (b1, 0), true, ()) w4 := by
    intro e
    refine jnC_mk (fun _ => vIf_t rfl ((clone_by A n c b w4 h4 hn).mono ?_))
    rintro r w5 ⟨f5, A', c', rfl, h5⟩
    refine ⟨_, _, _, rfl, f.trans1 f5, A', c', by rw [e, hl], ?_⟩
    rw [e, hl]
    refine ⟨h5.len, h5.le, ?_⟩
    rcases h5.at_ with h' | ⟨b', cs', q1, q2, q3⟩
    · exact .inl h'
    · exact .inr ⟨b', cs', q1, by omega, q3⟩
  -- something is
  have some : rightW x = true → (x.cut = false → x.data ≠ []) → jnC (F130.k2 (fun v w' => Fr (fun _ => False) w w' ∧ ∃ A' c', v = .slice A' (applyW b x).length c' ∧ Row w' b1 5 1 A' (applyW b x).length c' (bys (applyW b x)))) ((A, n, c), (b1, 0), false, ()) w4 := by
    intro hr hne
    have hro := right_iff.1 hr
    have hno : ¬ (rightW x = false ∨ (x.cut = false ∧ x.data = [])) := fun h => h.elim (fun h => by rw [hr] at h; cases h) (fun h => hne h.1 h.2)
    refine jnC_mk (fun _ => vIf_f rfl ⟨_, q.cell (o := 0) rfl, vIf_mk (fun hcut => ⟨_, q.cell (o := 0 + 1) rfl, ?_⟩) (fun hcut => jnC_mk (fun _ => ⟨_, q.cell (o := 0 + 1) rfl, _, _, _, q.cell (o := 0 + 2) rfl, ?_⟩))⟩)
    · have e : applyW b x = b.take x.off.toNat := by
        unfold applyW
        rw [if_neg hno, if_pos hcut]
      obtain ⟨t, ht, htn, hte⟩ : ∃ t : Nat, (if ((n : Nat) : Int) < x.off then ((n : Nat) : Int) else x.off) = (t : Int) ∧ t ≤ n ∧ b.take x.off.toNat = b.take t := by
        by_cases h0 : (n : Int) < x.off
        · exact ⟨n, by rw [if_pos h0], Nat.le_refl _, by rw [List.take_of_length_le (by omega), List.take_of_length_le (by omega)]⟩
        · exact ⟨x.off.toNat, by rw [if_neg h0]; omega, by omega, rfl⟩
      dsimp only
      rw [ht]
      have hsl := sl_cut0 (c := c) h4 htn
      have hsl : Sl w4 1 (slA A c 0 1) t (bys (b.take t)) := by
        have e2 : bys (b.take t) = (bys b).take (t * 1) := by simp [bys, List.map_take]
        rw [e2]; exact hsl
      refine gd_mk (decide_eq_true (by omega)) (gd_mk (decide_eq_true (by omega)) ?_)
      rw [Int.toNat_natCast]
      refine (clone_by (slA A c 0 1) t c (b.take t) w4 hsl (by omega)).mono ?_
      rintro r w5 ⟨f5, A', c', rfl, h5⟩
      have hlt : (b.take t).length = t := by rw [List.length_take]; omega
      refine ⟨_, _, _, rfl, f.trans1 f5, A', c', by rw [e, hte, hlt], ?_⟩
      rw [e, hte, hlt]
      refine ⟨h5.len, h5.le, ?_⟩
      rcases h5.at_ with h' | ⟨b', cs', q1, q2, q3⟩
      · exact .inl h'
      · exact .inr ⟨b', cs', q1, by omega, q3⟩
    · have hcut : x.cut = false := hcut
      have e : applyW b x = over b x.off.toNat x.data := by
        unfold applyW
        rw [if_neg hno, if_neg (by rw [hcut]; decide)]
      obtain ⟨o, ho⟩ : ∃ o : Nat, x.off = (o : Int) := ⟨x.off.toNat, by omega⟩
      have hol : o + m ≤ 1048576 := by omega
      have ew : IntKind.wrap .i64 (x.off + ((m : Nat) : Int)) = ((o + m : Nat) : Int) := by rw [i64_id (by omega) (by omega)]; omega
      obtain ⟨N, hN, hNe⟩ : ∃ N : Nat, (if ((n : Nat) : Int) < IntKind.wrap .i64 (x.off + ((m : Nat) : Int)) then IntKind.wrap .i64 (x.off + ((m : Nat) : Int)) else ((n : Nat) : Int)) = (N : Int) ∧ N = max n (o + m) := by
        rw [ew]
        refine ⟨max n (o + m), ?_, rfl⟩
        split <;> omega
      dsimp only
      rw [hN]
      refine gd_mk (decide_eq_true (by omega)) (gd_mk (decide_eq_true (by omega)) (gd_mk (decide_eq_true (by omega)) (nw_mk ?_)))
      rw [Int.toNat_natCast]
      have r3 : Row (w4.alloc (.cells (zeros N [Value.int .u8 0]).toArray 5)) b1 5 1 (some ⟨w4.heap.size, 0, none⟩) N N (zeros N [Value.int .u8 0]) := Row.made (by omega) rfl (Nat.le_refl _)
      have f3 : Fr (fun _ => False) w4 (w4.alloc (.cells (zeros N [Value.int .u8 0]).toArray 5)) := Fr.alloc _ _ _
      generalize hb3 : w4.heap.size = b3 at r3 ⊢
      generalize w4.alloc (.cells (zeros N [Value.int .u8 0]).toArray 5) = w5 at r3 f3 ⊢
      have h5 := f3.sl h4 (fun _ _ _ h => h)
      have hbl : (bys b).length = n * 1 := by simp [bys]; omega
      have cp := cpy_row (k := 0) (x := .slice A n c) (m := n) (us := bys b) r3 h5.src hbl (Nat.zero_le _) (fun v hv => bvs_one b v (List.mem_of_mem_take hv)) (K := fun n25 w26 =>
        ldI .i64 w26.drew b1 (0 + 1) fun i27 =>
        gd (decide (0 ≤ i27)) <|
        gd (decide (i27 ≤ ((N : Nat) : Int))) <|
        ldSl w26.drew b1 (0 + 2) fun A28 n29 c30 =>
        cpy w26.drew 1 (slA (some ⟨b3, 0, none⟩) N (i27).toNat 1) (N - (i27).toNat) (Value.slice A28 n29 c30) fun n31 w32 =>
        (fun v w' => Fr (fun _ => False) w w' ∧ ∃ A' c', v = .slice A' (applyW b x).length c' ∧ Row w' b1 5 1 A' (applyW b x).length c' (bys (applyW b x))) (Value.slice (some ⟨b3, 0, none⟩) N N) w32) (fun w6 r6 f6 => ?_)
      · rw [sl0, Nat.sub_zero] at cp
        exact cp
      · have f6d := f6.trans (Fr.drew (fun _ => False) w6) (U := fun k => blkOf (some (⟨b3, 0, none⟩ : Addr)) = some k) (fun _ _ h => h) (fun _ _ h => h.elim)
        have q6 := (q.fr f3 (fun h => h)).fr f6d (fun h => by
          simp only [blkOf, Option.some.injEq] at h
          have := q.lt; omega)
        have hB6 : Sl w6.drew 1 B m (bys x.data) := f6d.sl (f3.sl hB (fun _ _ _ h => h)) (fun h0 k hk h => by
          simp only [blkOf, Option.some.injEq] at h
          have := hB.blt (by omega) h0 hk
          omega)
        have r6d := (Fr.drew (fun _ => False) w6).row r6 (fun _ _ h => h)
        have f6' : Fr (fun _ => False) w4 w6.drew := f3.trans f6d (fun _ _ h => h) (fun k hk h => by
          simp only [blkOf, Option.some.injEq] at h
          omega)
        generalize w6.drew = w7 at q6 hB6 r6d f6' ⊢
        refine ⟨_, q6.cell (o := 0 + 1) rfl, ?_⟩
        rw [ho]
        refine gd_mk (decide_eq_true (by omega)) (gd_mk (decide_eq_true (by omega)) ⟨_, _, _, q6.cell (o := 0 + 2) rfl, ?_⟩)
        rw [Int.toNat_natCast]
        have hdl : (bys x.data).length = m * 1 := by simp [bys]; omega
        refine cpy_row (k := o) (us := bys x.data) r6d hB6.src hdl (by omega) (fun v hv => bvs_one x.data v (List.mem_of_mem_take hv)) (fun w8 r8 f8 => ⟨?_, some ⟨b3, 0, none⟩, N, ?_, ?_⟩)
        · exact (f.trans1 f6').trans f8 (fun _ _ h => h) (fun k hk h => by
            simp only [blkOf, Option.some.injEq] at h
            omega)
        · rw [e, over_len, ho, Int.toNat_natCast, hl, hm, hNe]
        · have hmin1 : min n (N - 0) = n := by omega
          have hmin2 : min m (N - o) = m := by omega
          have ez : splice (zeros N [Value.int .u8 0]) (0 * 1) ((bys b).take (min n (N - 0) * 1)) = bys b ++ zeros (N - n) [Value.int .u8 0] := by
            rw [hmin1, List.take_of_length_le (by omega)]
            unfold splice
            rw [Nat.zero_mul, List.take_zero, List.nil_append, Nat.zero_add, hbl]
            congr 1
            have e3 : zeros N [Value.int .u8 0] = zeros n [Value.int .u8 0] ++ zeros (N - n) [Value.int .u8 0] := by
              unfold zeros
              rw [← List.flatten_append, List.replicate_append_replicate]
              congr 2; omega
            rw [e3, List.drop_append_of_le_length (by rw [zeros_length]; simp), List.drop_of_length_le (by rw [zeros_length]; simp), List.nil_append]
          rw [ez, hmin2, List.take_of_length_le (by omega), Nat.mul_one] at r8
          have eo := over_cells b x.data o
          rw [hl, hm, ← hNe] at eo
          rw [eo] at r8
          rw [e, over_len, ho, Int.toNat_natCast, hl, hm, ← hNe]
          exact r8
  refine ⟨_, rfl, vIf_mk (fun hr => same ?_) (fun hr => ⟨_, q.cell (o := 0) rfl, vIf_mk (fun hcut => ⟨_, _, _, q.cell (o := 0 + 2) rfl, ?_⟩) (fun hcut => some ?_ ?_)⟩)⟩
  · have hr : rightW x = false := by simpa using hr
    unfold applyW
    rw [if_pos (.inl hr)]
  · have hr : rightW x = true := by simpa using hr
    have hcut : x.cut = false := by simpa using hcut
    dsimp only
    cases hm0 : (((m : Nat) : Int) == 0) with
    | true =>
      refine same ?_
      have hm0 : (m : Int) = 0 := by simpa using hm0
      have hd0 : x.data = [] := List.length_eq_zero_iff.1 (by omega)
      unfold applyW
      rw [if_pos (.inr ⟨hcut, hd0⟩)]
    | false =>
      refine some hr (fun _ hd0 => ?_)
      have hm0 : ¬ (m : Int) = 0 := by simpa using hm0
      rw [hd0] at hm
      simp at hm
      omega
  · simpa using hr
  · intro hc2
    have hcut : x.cut = true := by simpa using hcut
    rw [hcut] at hc2; cases hc2
end Go.Proofs.YtfdhaeglhkmmpaaGreat
/- chapter 09: All, Peak -/
namespace Go.Proofs.YtfdhaeglhkmmpaaGreat
open Go.GV Go.RowKit Go.Lib
set_option linter.unusedVariables false
set_option linter.unusedSimpArgs false
theorem row_lowB {u : World} {B B' : Nat} {e : TypeId} {sz : Nat} {A : Option Addr} {k c : Nat} {vs : List Value} (hB : B' ≤ B) (hr : Row u B e sz A k c vs) : Row u B' e sz A k c vs := by
  refine ⟨hr.len, hr.le, ?_⟩
  rcases hr.at_ with h' | ⟨b', cs', q1, q2, q3⟩
  · exact .inl h'
  · exact .inr ⟨b', cs', q1, by omega, q3⟩
/-- a record is laid in a variable of its own, and read -/
theorem var_new {w : World} {z cs : List Value} {e : TypeId} {sz : Nat} (hz : z.length = sz) (hc : cs.length = sz) (ho : ∀ v ∈ cs, v.oneCell' = true) {K : Nat → World → Prop} (hK : ∀ b w', Fr (fun _ => False) w w' → w.heap.size ≤ b → RecAt w' b e cs → K b w') :
    nw w z e fun b w1 => gd (cs.length == sz) (st w1 b 0 cs fun w2 => K b w2) := by
  refine nw_mk (gd_mk (by rw [hc]; simp) ?_)
  have f1 : Fr (fun _ => False) w (w.alloc (.cells z.toArray e)) := Fr.alloc _ _ _
  have r1 := RecAt.new w z e
  generalize hb : w.heap.size = b at r1 ⊢
  generalize w.alloc (.cells z.toArray e) = w1 at f1 r1 ⊢
  refine r1.st_mk (o := 0) (by rw [hc, hz]; omega) ho (fun r2 f2 => hK _ _ (f1.trans f2 (fun _ _ h => h) (fun k hk h => by omega)) (by omega) ?_)
  rw [splice_full (by rw [hc, hz])] at r2
  exact r2
theorem rec_all {w : World} {b : Nat} {e : TypeId} {cs : List Value} (h : RecAt w b e cs) : cellsAt w b 0 cs := h.cells (fun j v hj => by simpa using hj)
theorem all1_calls (i : Int) (cs : List Value) (x : Wr) (w : World) (h : WrP w cs x) :
    Calls Tryz.prog 100 #[.int .i64 i, ofL cs] w fun e w' => Fr (fun _ => False) w w' ∧ e = .returned (.tuple #[ofL cs, .bool true]) := by
  refine (F100.of i cs w (Q := fun v w' => Fr (fun _ => False) w w' ∧ v = .tuple #[ofL cs, .bool true]) ?_).mono (fun e w' ⟨v, he, hf, hv⟩ => ⟨hf, by rw [he, hv]⟩)
  have hone := wr_one h
  refine nw_mk ?_
  have q := RecAt.new w cs 124
  have f1 : Fr (fun _ => False) w (w.alloc (.cells cs.toArray 124)) := Fr.alloc _ _ _
  generalize w.heap.size = b1 at q ⊢
  generalize w.alloc (.cells cs.toArray 124) = w2 at f1 q ⊢
  refine nw_mk ?_
  have p := RecAt.new w2 [Value.bool false, Value.int .i64 0, Value.slice none 0 0] 124
  have f2 : Fr (fun _ => False) w2 (w2.alloc (.cells [Value.bool false, Value.int .i64 0, Value.slice none 0 0].toArray 124)) := Fr.alloc _ _ _
  have q := q.fr f2 (fun h => h)
  generalize hb3 : w2.heap.size = b3 at p ⊢
  generalize w2.alloc (.cells [Value.bool false, Value.int .i64 0, Value.slice none 0 0].toArray 124) = w4 at f2 q p ⊢
  refine ⟨cs, hone.1, rec_all q, gd_mk (by rw [hone.1]; rfl) (p.st_mk (o := 0) (by show 0 + cs.length ≤ 3; rw [hone.1]; omega) hone.2 (fun p f3 => ?_))⟩
  rw [splice_full (by rw [hone.1]; rfl)] at p
  exact ⟨cs, hone.1, rec_all p, (f1.trans1 f2).trans f3 (fun _ _ h => h) (fun k hk h => by have := f1.size; omega), rfl⟩
theorem all_le {b : Bs} {l : List Wr} (hb : b.length ≤ 1048576) : (allW b l).length ≤ 1048576 := by
  have h1 := allW_len l b
  have h2 := peakW_le l (n := (b.length : Int)) (by omega)
  omega
theorem takeW {l : List Wr} {i : Nat} {x : Wr} (h : l[i]? = some x) : l.take (i + 1) = l.take i ++ [x] := by rw [List.take_add_one, h]; rfl
set_option maxHeartbeats 1000000 in
theorem all_calls (A : Option Addr) (n c : Nat) (b : Bs) (A' : Option Addr) (n' c' : Nat) (l : List Wr) (w : World) (h : Sl w 1 A n (bys b)) (hl : WSl w A' n' l) (hb : b.length ≤ 1048576) (hn : n' ≤ 1099511627775) (hd : ∀ x ∈ l, x.data.length ≤ 1048576) :
    Calls Tryz.prog 77 #[.slice A n c, .slice A' n' c'] w fun e w' => Fr (fun _ => False) w w' ∧ ∃ B k, e = .returned (.slice B (allW b l).length k) ∧ Row w' w.heap.size 5 1 B (allW b l).length k (bys (allW b l)) := by
  refine (F77.of A n c A' n' c' w (Q := fun v w' => Fr (fun _ => False) w w' ∧ ∃ B k, v = .slice B (allW b l).length k ∧ Row w' w.heap.size 5 1 B (allW b l).length k (bys (allW b l))) ?_).mono (fun e w' ⟨v, he, hf, B, k, hv, h⟩ => ⟨hf, B, k, by rw [he, hv], h⟩)
  have hbl := by_n h
  have hwl : l.length = n' := by obtain ⟨vs, _, h2, _⟩ := hl; exact h2
  have key : Calls Tryz.prog 93 #[.slice A n c, .slice A' n' c', .func (.func 100) #[] #[]] w fun e w' => Fr (fun _ => False) w w' ∧ ∃ B k, e = .returned (.slice B (allW b l).length k) ∧ Row w' w.heap.size 5 1 B (allW b l).length k (bys (allW b l)) := by
    refine (F93a.of A n c A' n' c' w (Q := fun v w' => Fr (fun _ => False) w w' ∧ ∃ B k, v = .slice B (allW b l).length k ∧ Row w' w.heap.size 5 1 B (allW b l).length k (bys (allW b l))) ?_).mono (fun e w' ⟨v, he, hf, B, k, hv, h⟩ => ⟨hf, B, k, by rw [he, hv], h⟩)
    refine (clone_by A n c b w h (by omega)).mono ?_
    rintro e w1 ⟨f1, B, k, rfl, h1⟩
    refine ⟨_, _, _, rfl, jnC_mk (loop_rule (fun s v => Fr (fun _ => False) w v ∧ ∃ (i : Nat) (B : Option Addr) (k : Nat), i ≤ n' ∧ s = ((), (B, (allW b (l.take i)).length, k), (A', n', c'), ((n' : Nat) : Int), (i : Int), ()) ∧ Row v w.heap.size 5 1 B (allW b (l.take i)).length k (bys (allW b (l.take i))))
      (fun s _ => (n' - s.2.2.2.2.1).toNat) ?_ _ _ ⟨f1, 0, B, k, by omega, by rw [List.take_zero, ← hbl]; rfl, by rw [List.take_zero, show (allW b []).length = n from hbl]; exact h1⟩)⟩
    rintro s v C ⟨hf, i, B, k, hi, rfl, hr⟩ hC _
    have hal := all_le (l := l.take i) hb
    refine vIf_mk (fun hlt => ?_) (fun hge => ?_)
    · have hlt2 : (i : Int) < (n' : Int) := of_decide_eq_true hlt
      have gi : l[i]? = some (l[i]'(by omega)) := List.getElem?_eq_getElem (by omega)
      generalize l[i]'(by omega) = x at gi
      have hxd := hd x (List.mem_of_getElem? gi)
      obtain ⟨vs, hs, _, hE⟩ := hl.fr0 hf
      refine el_all hs hE (by omega) gi (by omega) (fun cs hc hx => var_new rfl hc (wr_one hx).2 (fun b9 w11 g1 hb9 r9 => ⟨cs, hc, rec_all r9, ?_⟩))
      have hf1 := hf.trans1 g1
      refine (all1_calls i cs x w11 (hx.fr0 g1)).mono ?_
      rintro e w13 ⟨g2, rfl⟩
      have g12 := g1.trans1 g2
      refine ⟨_, _, rfl, var_new rfl hc (wr_one hx).2 (fun b17 w19 g3 hb17 r17 => vIf_t rfl ⟨cs, hc, rec_all r17, ?_⟩)⟩
      have g123 := g12.trans1 g3
      refine (apply_calls B _ k (allW b (l.take i)) cs x w19 (g123.row hr (fun _ _ h => h)).sl hr.le (hx.fr0 g123) (by omega) (by omega)).mono ?_
      rintro e w21 ⟨g4, B2, k2, rfl, h2⟩
      have hsz := (hf.trans1 g123).size
      have en : allW b (l.take (i + 1)) = applyW (allW b (l.take i)) x := by rw [takeW gi, allW_snoc]
      refine ⟨_, _, _, rfl, jnC_mk (hC _ _ ⟨(hf.trans1 g123).trans1 g4, i + 1, B2, k2, by omega, by rw [ei i (by omega), en], by rw [en]; exact row_lowB hsz h2⟩ ?_)⟩
      show ((n' : Int) - IntKind.wrap .i64 ((i : Int) + 1)).toNat < ((n' : Int) - (i : Int)).toNat
      rw [ei i (by omega)]; omega
    · have hge2 : ¬ (i : Int) < (n' : Int) := of_decide_eq_false hge
      have e : l.take i = l := List.take_of_length_le (by omega)
      rw [e] at hr ⊢
      exact ⟨hf, B, k, rfl, hr⟩
  refine key.mono ?_
  rintro e w1 ⟨f1, B, k, rfl, h1⟩
  exact ⟨_, _, _, rfl, f1, B, k, rfl, h1⟩
/-! ### Peak -/
set_option maxHeartbeats 1000000 in
theorem peak_calls (m : Int) (A : Option Addr) (n c : Nat) (l : List Wr) (w : World) (hl : WSl w A n l) (hn : n ≤ 1099511627775) (hd : ∀ x ∈ l, x.data.length ≤ 1048576) :
    Calls Tryz.prog 98 #[.int .i64 m, .slice A n c] w fun e w' => e = .returned (.int .i64 (peakW m l)) ∧ Fr (fun _ => False) w w' := by
  refine (F98.of m A n c w (Q := fun v w' => v = .int .i64 (peakW m l) ∧ Fr (fun _ => False) w w') ?_).mono (fun e w' ⟨v, he, hv, h⟩ => ⟨by rw [he, hv], h⟩)
  have hwl : l.length = n := by obtain ⟨vs, _, h2, _⟩ := hl; exact h2
  refine jnC_mk (loop_rule (fun s v => Fr (fun _ => False) w v ∧ ∃ (i : Nat), i ≤ n ∧ s = (peakW m (l.take i), (A, n, c), ((n : Nat) : Int), (i : Int), ()))
    (fun s _ => (n - s.2.2.2.1).toNat) ?_ _ _ ⟨Fr.refl _ _, 0, by omega, rfl⟩)
  rintro s v C ⟨hf, i, hi, rfl⟩ hC _
  have ms : ((n : Int) - IntKind.wrap .i64 ((i : Int) + 1)).toNat < ((n : Int) - (i : Int)).toNat ∨ ¬ i < n := by
    by_cases h : i < n
    · left; rw [ei i (by omega)]; omega
    · exact .inr h
  refine vIf_mk (fun hlt => ?_) (fun hge => ?_)
  · have hlt2 : (i : Int) < (n : Int) := of_decide_eq_true hlt
    have gi : l[i]? = some (l[i]'(by omega)) := List.getElem?_eq_getElem (by omega)
    generalize l[i]'(by omega) = x at gi
    have hxd := hd x (List.mem_of_getElem? gi)
    obtain ⟨vs, hs, _, hE⟩ := hl.fr0 hf
    refine el_all hs hE (by omega) gi (by omega) (fun cs hc hx => var_new rfl hc (wr_one hx).2 (fun b4 w6 g1 hb4 r4 => ⟨cs, hc, rec_all r4, ?_⟩))
    have hf1 := hf.trans1 g1
    refine (right_calls cs x w6 (hx.fr0 g1) (by omega)).mono ?_
    rintro e w8 ⟨rfl, g2⟩
    have r4 := r4.fr g2 (fun h => h)
    have hf2 := hf1.trans1 g2
    obtain ⟨B, k, k', ecs, hB, hkk⟩ := hx
    subst ecs
    have hk := by_n hB
    have k5 : ∀ t : Bool, t = decide (rightW x = true ∧ x.cut = false ∧ x.data ≠ []) → jnC (F98.k5 (fun v w' => v = .int .i64 (peakW m l) ∧ Fr (fun _ => False) w w') C) (peakW m (l.take i), (b4, 0), (A, n, c), ((n : Nat) : Int), (i : Int), t, ()) w8 := by
      intro t ht
      refine jnC_mk (fun _ => vIf_mk (fun h1 => ⟨_, r4.cell (o := 0 + 1) rfl, _, _, _, r4.cell (o := 0 + 2) rfl, jnC_mk (hC _ _ ⟨hf2, i + 1, by omega, ?_⟩ (ms.resolve_right (by omega)))⟩) (fun h1 => jnC_mk (hC _ _ ⟨hf2, i + 1, by omega, ?_⟩ (ms.resolve_right (by omega)))))
      · have h1 : t = true := h1
        rw [h1] at ht
        have hp := of_decide_eq_true ht.symm
        have hro := right_iff.1 hp.1
        have ew : IntKind.wrap .i64 (x.off + ((k : Nat) : Int)) = x.off + (x.data.length : Int) := by rw [i64_id (by omega) (by omega)]; omega
        rw [ei i (by omega), takeW gi, peakW_snoc, endW_pos hp, ew]
      · have h1 : t = false := h1
        rw [h1] at ht
        have hp := of_decide_eq_false ht.symm
        rw [ei i (by omega), takeW gi, peakW_snoc, endW_neg hp]
    refine ⟨_, rfl, vIf_mk (fun hr => ⟨_, r4.cell (o := 0) rfl, vIf_mk (fun hcut => ⟨_, _, _, r4.cell (o := 0 + 2) rfl, k5 _ ?_⟩) (fun hcut => k5 _ ?_)⟩) (fun hr => k5 _ ?_)⟩
    · have hr : rightW x = true := hr
      have hcut : x.cut = false := by simpa using hcut
      rw [Bool.eq_iff_iff, decide_eq_true_iff, decide_eq_true_iff]
      constructor
      · intro h
        refine ⟨hr, hcut, fun e => ?_⟩
        rw [e] at hk
        simp at hk
        omega
      · rintro ⟨_, _, h⟩
        have : x.data.length ≠ 0 := fun e => h (List.length_eq_zero_iff.1 e)
        omega
    · have hcut : x.cut = true := by simpa using hcut
      symm
      exact decide_eq_false (fun h => by rw [hcut] at h; cases h.2.1)
    · have hr : rightW x = false := hr
      symm
      exact decide_eq_false (fun h => by rw [hr] at h; cases h.1)
  · have hge2 : ¬ (i : Int) < (n : Int) := of_decide_eq_false hge
    have e : l.take i = l := List.take_of_length_le (by omega)
    rw [e]
    exact ⟨rfl, hf⟩
end Go.Proofs.YtfdhaeglhkmmpaaGreat
/- chapter 10: Concat of changes; with, Now, Room, Append, Cut, Sync -/
namespace Go.Proofs.YtfdhaeglhkmmpaaGreat
open Go.GV Go.RowKit Go.Lib
set_option linter.unusedVariables false
set_option linter.unusedSimpArgs false
abbrev ZW : List Value := [Value.bool false, Value.int .i64 0, Value.slice none 0 0]
theorem zw_one : ∀ v ∈ ZW, v.oneCell' = true := by
  intro v hv
  simp only [List.mem_cons, List.not_mem_nil, or_false] at hv
  rcases hv with rfl | rfl | rfl <;> rfl
def totW (ls : List (Nat × List Value)) : Nat := (ls.map (·.1)).sum
def celW (ls : List (Nat × List Value)) : List Value := (ls.map (·.2)).flatten
theorem totW_step {ls : List (Nat × List Value)} {i : Nat} {l : Nat × List Value} (h : ls[i]? = some l) : totW (ls.take (i + 1)) = totW (ls.take i) + l.1 ∧ celW (ls.take (i + 1)) = celW (ls.take i) ++ l.2 := by
  unfold totW celW
  rw [List.take_add_one, h]; simp
theorem totW_le (ls : List (Nat × List Value)) (i : Nat) : totW (ls.take i) ≤ totW ls := by
  have h : totW ls = totW (ls.take i) + totW (ls.drop i) := by
    unfold totW
    rw [← List.sum_append, ← List.map_append, List.take_append_drop]
  omega
theorem growW_calls (m : Nat) (w : World) (hm : m ≤ 1099511627776) :
    Calls Tryz.prog 131 #[.slice none 0 0, .int .i64 m] w fun e w' => Fr (fun _ => False) w w' ∧ ∃ A' c', e = .returned (.slice A' 0 c') ∧ Row w' w.heap.size 124 3 A' 0 c' [] := by
  refine (F131.of none 0 0 m w (Q := fun v w' => Fr (fun _ => False) w w' ∧ ∃ A' c', v = .slice A' 0 c' ∧ Row w' w.heap.size 124 3 A' 0 c' []) ?_).mono (fun e w' ⟨v, he, hf, A', c', hv, h⟩ => ⟨hf, A', c', by rw [he, hv], h⟩)
  refine vIf_f (decide_eq_false (by omega)) (jnC_mk (fun _ => ?_))
  have e0 : IntKind.wrap .i64 ((m : Int) - IntKind.wrap .i64 (((0 : Nat) : Int) - ((0 : Nat) : Int))) = m := by
    rw [i64_id (n := ((0 : Nat) : Int) - ((0 : Nat) : Int)) (by omega) (by omega), i64_id (by omega) (by omega)]; omega
  show vIf (decide (IntKind.wrap .i64 ((m : Int) - IntKind.wrap .i64 (((0 : Nat) : Int) - ((0 : Nat) : Int))) > 0)) _ _
  refine vIf_mk (fun h0 => ?_) (fun h0 => ⟨Fr.refl _ _, none, 0, rfl, Row.nil _ _ _ _⟩)
  refine gd_mk rfl (gd_mk rfl ?_)
  show appZ w 3 40 ZW 124 none 0 0 (IntKind.wrap .i64 ((m : Int) - IntKind.wrap .i64 (((0 : Nat) : Int) - ((0 : Nat) : Int)))) _
  refine appZ_row (Row.nil w w.heap.size 124 3) (m := m) (by rw [e0, i64_id (by omega) (by omega)]) (by omega) zw_one rfl (by omega) (by omega) (Nat.le_refl _) ?_
  intro A' c' w2 r2 f2
  refine gd_mk rfl (gd_mk (decide_eq_true (by show ((0 : Nat) : Int) ≤ (c' : Int); omega)) ⟨f2.mono (fun _ _ h => by simp [blkOf] at h), _, c', rfl, ?_⟩)
  have hsl : slA A' c' 0 3 = A' := by
    unfold slA
    split
    · rfl
    · cases A' with
      | none => rfl
      | some a => simp [Addr.add]
  show Row w2 w.heap.size 124 3 (slA A' c' 0 3) 0 c' []
  rw [hsl]
  refine ⟨rfl, Nat.zero_le _, ?_⟩
  rcases r2.at_ with ⟨h1, h2, h3⟩ | ⟨b, cs, h1, h2, h3, h4, h5⟩
  · exact .inl ⟨h1, rfl, h3⟩
  · exact .inr ⟨b, cs, h1, h2, h3, h4, by simp⟩
theorem concatW_calls (A : Option Addr) (n c : Nat) (vs : List Value) (ls : List (Nat × List Value)) (w : World) (h : Sl w 1 A n vs) (hn : n = ls.length) (hs : ∀ (i : Nat) (l : Nat × List Value), ls[i]? = some l → ∃ (B : Option Addr) (k : Nat), vs[i]? = some (Value.slice B l.1 k) ∧ Sl w 3 B l.1 l.2 ∧ ∀ v ∈ l.2, v.oneCell' = true)
    (hm : totW ls ≤ 1099511627776) (hn2 : n ≤ 1099511627776) :
    Calls Tryz.prog 99 #[.slice A n c] w fun e w' => Fr (fun _ => False) w w' ∧ ∃ A' c', e = .returned (.slice A' (totW ls) c') ∧ Row w' w.heap.size 124 3 A' (totW ls) c' (celW ls) := by
  refine (F99.of A n c w (Q := fun v w' => Fr (fun _ => False) w w' ∧ ∃ A' c', v = .slice A' (totW ls) c' ∧ Row w' w.heap.size 124 3 A' (totW ls) c' (celW ls)) ?_).mono (fun e w' ⟨v, he, hf, A', c', hv, h⟩ => ⟨hf, A', c', by rw [he, hv], h⟩)
  refine jnC_mk ?_
  refine loop_rule (fun s u => u = w ∧ ∃ i : Nat, i ≤ n ∧ s = ((A, n, c), ((totW (ls.take i) : Nat) : Int), (A, n, c), (n : Int), (i : Int), ()))
    (fun s _ => (n - s.2.2.2.2.1).toNat) ?_ _ _ ⟨rfl, 0, by omega, rfl⟩
  rintro s u C ⟨rfl, i, hi, rfl⟩ hC _
  refine vIf_mk (fun hlt => ?_) (fun hge => ?_)
  · have hlt2 : (i : Int) < n := of_decide_eq_true hlt
    obtain ⟨l, hl⟩ : ∃ l, ls[i]? = some l := ⟨_, List.getElem?_eq_getElem (by omega)⟩
    obtain ⟨B, k, hv, hB, _⟩ := hs i l hl
    obtain ⟨b, o, hA', hc⟩ := h.get (i := i) (by omega) hv
    subst hA'
    have h1 := totW_le ls (i + 1)
    have h2 := (totW_step hl).1
    have e1 : IntKind.wrap .i64 (((totW (ls.take i) : Nat) : Int) + ((l.1 : Nat) : Int)) = ((totW (ls.take (i + 1)) : Nat) : Int) := by
      rw [i64_id (by omega) (by omega)]; omega
    refine dr_mk (gd_mk (decide_eq_true (Int.natCast_nonneg i)) (gd_mk (decide_eq_true hlt2) ⟨B, l.1, k, hc, vIf_f (decide_eq_false ?_) (jnC_mk (hC _ _ ⟨rfl, i + 1, by omega, ?_⟩ ?_))⟩))
    · show ¬ (IntKind.wrap .i64 (((totW (ls.take i) : Nat) : Int) + ((l.1 : Nat) : Int)) < 0)
      rw [e1]; omega
    · show ((_, n, c), IntKind.wrap .i64 (((totW (ls.take i) : Nat) : Int) + ((l.1 : Nat) : Int)), (_, n, c), (n : Int), IntKind.wrap .i64 ((i : Int) + 1), ()) = _
      rw [e1, i64_id (by omega) (by omega)]; rfl
    · show ((n : Int) - IntKind.wrap .i64 ((i : Int) + 1)).toNat < ((n : Int) - i).toNat
      rw [i64_id (by omega) (by omega)]; omega
  · have hge2 : ¬ ((i : Int) < n) := of_decide_eq_false hge
    have hin : i = ls.length := by omega
    subst hin
    show Calls Tryz.prog 131 #[.slice none 0 0, .int .i64 ((totW (ls.take ls.length) : Nat) : Int)] u _
    rw [List.take_length]
    refine (growW_calls _ u hm).mono ?_
    rintro e w1 ⟨f1, R, rc, rfl, r1⟩
    refine ⟨R, 0, rc, rfl, jnC_mk ?_⟩
    refine loop_rule (fun s x => Fr (fun _ => False) u x ∧ ∃ (i : Nat) (R : Option Addr) (rc : Nat), i ≤ n ∧ s = ((R, totW (ls.take i), rc), (A, n, c), (n : Int), (i : Int), ()) ∧ Row x u.heap.size 124 3 R (totW (ls.take i)) rc (celW (ls.take i)))
      (fun s _ => (n - s.2.2.2.1).toNat) ?_ _ _ ⟨f1, 0, R, rc, by omega, rfl, r1⟩
    rintro s x C2 ⟨hf, i, R, rc, hi, rfl, hr⟩ hC2 _
    have hRb : ∀ k, k < u.heap.size → blkOf R = some k → False := fun k hk hb => by have := (hr.blt hb).1; omega
    refine vIf_mk (fun hlt => ?_) (fun hge => ?_)
    · have hlt2 : (i : Int) < n := of_decide_eq_true hlt
      obtain ⟨l, hl⟩ : ∃ l, ls[i]? = some l := ⟨_, List.getElem?_eq_getElem (by omega)⟩
      obtain ⟨B, k, hv, hB, hone⟩ := hs i l hl
      obtain ⟨b, o, hA', hc⟩ := (hf.sl h (fun _ _ _ h => h)).get (i := i) (by omega) hv
      subst hA'
      have h1 := totW_le ls (i + 1)
      obtain ⟨h2, h3⟩ := totW_step hl
      refine dr_mk (gd_mk (decide_eq_true (Int.natCast_nonneg i)) (gd_mk (decide_eq_true hlt2) ⟨B, l.1, k, hc, ?_⟩))
      refine app_row hr (hf.sl hB (fun _ _ _ h => h)).src hone rfl (by show (totW (ls.take i) + l.1) * 40 ≤ _; omega) (by show totW (ls.take i) + l.1 ≤ _; omega) hf.size ?_
      intro R' rc' w4 r4 f4
      refine jnC_mk (hC2 _ _ ⟨hf.trans f4 (fun _ _ h => h) (fun k hk h => hRb k hk h), i + 1, R', rc', by omega, ?_, ?_⟩ ?_)
      · show ((R', totW (ls.take i) + l.1, rc'), (_, n, c), (n : Int), IntKind.wrap .i64 ((i : Int) + 1), ()) = _
        rw [i64_id (by omega) (by omega), ← h2]; rfl
      · rw [h2, h3]
        exact r4
      · show ((n : Int) - IntKind.wrap .i64 ((i : Int) + 1)).toNat < ((n : Int) - i).toNat
        rw [i64_id (by omega) (by omega)]; omega
    · have hge2 : ¬ ((i : Int) < n) := of_decide_eq_false hge
      have hin : i = ls.length := by omega
      subst hin
      rw [List.take_length] at hr ⊢
      exact ⟨hf, R, rc, rfl, hr⟩
end Go.Proofs.YtfdhaeglhkmmpaaGreat
/- chapter 10: Now, Room, with, Sync -/
namespace Go.Proofs.YtfdhaeglhkmmpaaGreat
open Go.GV Go.RowKit Go.Lib
set_option linter.unusedVariables false
set_option linter.unusedSimpArgs false
theorem ino_one {w : World} {cs : List Value} {x : Ino} (h : InoAt w cs x) : cs.length = 2 ∧ ∀ v ∈ cs, v.oneCell' = true := by
  obtain ⟨A, n, c, A', n', c', rfl, _⟩ := h
  refine ⟨rfl, fun v hv => ?_⟩
  simp only [List.mem_cons, List.not_mem_nil, or_false] at hv
  rcases hv with rfl | rfl <;> rfl
theorem wsl_n {w : World} {A : Option Addr} {n : Nat} {l : List Wr} (h : WSl w A n l) : l.length = n := by
  obtain ⟨vs, _, h2, _⟩ := h
  exact h2
/-- a record is laid in a variable of its own, as it is -/
theorem rec_new {w : World} {cs : List Value} {e : TypeId} {K : Nat → World → Prop} (hK : ∀ b w', Fr (fun _ => False) w w' → w.heap.size ≤ b → RecAt w' b e cs → K b w') : nw w cs e K :=
  nw_mk (hK _ _ (Fr.alloc _ _ _) (Nat.le_refl _) (RecAt.new w cs e))
theorem now_calls' (cs : List Value) (x : Ino) (w : World) (h : InoAt w cs x) (hb : InoB x) (hp : x.p.length ≤ 1099511627775) :
    Calls Tryz.prog 51 #[ofL cs] w fun e w' => Fr (fun _ => False) w w' ∧ ∃ B k, e = .returned (.slice B (nowI x).length k) ∧ Row w' w.heap.size 5 1 B (nowI x).length k (bys (nowI x)) := by
  refine (F51.of cs w (Q := fun v w' => Fr (fun _ => False) w w' ∧ ∃ B k, v = .slice B (nowI x).length k ∧ Row w' w.heap.size 5 1 B (nowI x).length k (bys (nowI x))) ?_).mono (fun e w' ⟨v, he, hf, B, k, hv, h⟩ => ⟨hf, B, k, by rw [he, hv], h⟩)
  have h0 := h
  obtain ⟨A, n, c, A', n', c', rfl, h1, h2, h3, h4⟩ := h
  refine rec_new (fun b1 w2 f1 _ r1 => ⟨_, _, _, r1.cell (o := 0) rfl, _, _, _, r1.cell (o := 0 + 1) rfl, ?_⟩)
  have hn := wsl_n h3
  refine (all_calls A n c x.b A' n' c' x.p w2 (f1.sl h1 (fun _ _ _ h => h)) (h3.fr0 f1) hb.b (by omega) hb.d).mono ?_
  rintro e w9 ⟨f9, B, k, rfl, h9⟩
  exact ⟨_, _, _, rfl, f1.trans1 f9, B, k, rfl, row_lowB f1.size h9⟩
theorem room_calls (cs : List Value) (x : Ino) (w : World) (h : InoAt w cs x) (hb : InoB x) (hp : x.p.length ≤ 1099511627775) :
    Calls Tryz.prog 75 #[ofL cs] w fun e w' => e = .returned (.int .i64 (roomI x)) ∧ Fr (fun _ => False) w w' := by
  refine (F75.of cs w (Q := fun v w' => v = .int .i64 (roomI x) ∧ Fr (fun _ => False) w w') ?_).mono (fun e w' ⟨v, he, hv, h⟩ => ⟨by rw [he, hv], h⟩)
  obtain ⟨A, n, c, A', n', c', rfl, h1, h2, h3, h4⟩ := h
  have hn := by_n h1
  have hn' := wsl_n h3
  refine rec_new (fun b1 w2 f1 _ r1 => ⟨_, _, _, r1.cell (o := 0) rfl, _, _, _, r1.cell (o := 0 + 1) rfl, ?_⟩)
  refine (peak_calls (n : Int) A' n' c' x.p w2 (h3.fr0 f1) (by omega) hb.d).mono ?_
  rintro e w9 ⟨rfl, f9⟩
  exact ⟨_, rfl, by unfold roomI; rw [hn], f1.trans1 f9⟩
theorem sync_calls' (cs : List Value) (x : Ino) (w : World) (h : InoAt w cs x) (hb : InoB x) (hp : x.p.length ≤ 1099511627775) :
    Calls Tryz.prog 44 #[ofL cs] w fun e w' => Fr (fun _ => False) w w' ∧ ∃ cs', e = .returned (ofL cs') ∧ InoAt w' cs' (syncI x) := by
  refine (F44.of cs w (Q := fun v w' => Fr (fun _ => False) w w' ∧ ∃ cs', v = ofL cs' ∧ InoAt w' cs' (syncI x)) ?_).mono (fun e w' ⟨v, he, hf, cs', hv, h⟩ => ⟨hf, cs', by rw [he, hv], h⟩)
  have hone := ino_one h
  refine rec_new (fun b1 w2 f1 hb1 r1 => rec_new (fun b3 w4 f3 hb3 r3 => ⟨cs, hone.1, rec_all (r1.fr f3 (fun h => h)), ?_⟩))
  have f13 := f1.trans1 f3
  have hs1 := f1.size
  have hl3 := r3.lt
  refine (now_calls' cs x w4 (h.fr0 f13) hb hp).mono ?_
  rintro e w6 ⟨f6, B, k, rfl, h6⟩
  have r3 := r3.fr f6 (fun h => h)
  have hr3 := r3.lt
  refine ⟨_, _, _, rfl, gd_mk rfl (r3.st_mk (o := 0) (by show 0 + 2 ≤ 2; omega) (fun v hv => ?_) (fun r3 f7 => ?_))⟩
  · simp only [List.cons_append, List.nil_append, List.mem_cons, List.not_mem_nil, or_false] at hv
    rcases hv with rfl | rfl <;> rfl
  rw [splice_full (by rfl)] at r3
  refine ⟨[.slice B (nowI x).length k, .slice none 0 0], rfl, rec_all r3, (f13.trans1 f6).trans f7 (fun _ _ h => h) (fun j hj h => by have h : j = b3 := h; omega), _, rfl, ?_⟩
  have hsl := f7.row h6 (fun j hj h => by have h : j = b3 := h; have := (h6.blt hj).1; omega)
  exact ⟨_, _, _, _, _, _, rfl, hsl.sl, hsl.le, ⟨[], Sl.nil _ _ _, rfl, Ech.nil⟩, Nat.le_refl _⟩
set_option maxHeartbeats 1000000 in
theorem with_calls (cs : List Value) (x : Ino) (B : Option Addr) (k : Nat) (cy : List Value) (y : Wr) (w : World) (h : InoAt w cs x) (hB : Sl w 3 B 1 cy) (hy : WrP w cy y) (hp : x.p.length ≤ 1099511627774) :
    Calls Tryz.prog 76 #[ofL cs, .slice B 1 k] w fun e w' => Fr (fun _ => False) w w' ∧ ∃ cs', e = .returned (ofL cs') ∧ InoAt w' cs' ⟨x.b, x.p ++ [y]⟩ := by
  refine (F76.of cs B 1 k w (Q := fun v w' => Fr (fun _ => False) w w' ∧ ∃ cs', v = ofL cs' ∧ InoAt w' cs' ⟨x.b, x.p ++ [y]⟩) ?_).mono (fun e w' ⟨v, he, hf, cs', hv, h⟩ => ⟨hf, cs', by rw [he, hv], h⟩)
  have hyo := wr_one hy
  obtain ⟨A, n, c, A', n', c', rfl, h1, h2, h3, h4⟩ := h
  have hn' := wsl_n h3
  refine rec_new (fun b1 w2 f1 hb1 r1 => rec_new (fun b3 w4 f3 hb3 r3 => ?_))
  have fd : Fr (fun _ => False) w4 w4.drew := Fr.drew _ _
  have hl3 := r3.lt
  have r1 := (r1.fr f3 (fun h => h)).fr fd (fun h => h)
  have r3 := r3.fr fd (fun h => h)
  have f0 := (f1.trans1 f3).trans1 fd
  have hs1 := f1.size
  have hs3 := f3.size
  have hsd := fd.size
  generalize w4.drew = w5 at fd r1 r3 f0 hsd ⊢
  refine ⟨_, _, _, r1.cell (o := 0) rfl, _, _, _, r1.cell (o := 0 + 1) rfl, rec_new (fun b11 w12 f4 hb11 r11 => kp_mk f4 r1.lt (fun h => h) ?_)⟩
  have f04 := f0.trans1 f4
  obtain ⟨vs, hs, hl, hE⟩ := h3.fr0 f04
  have hcel : celW [(n', vs), (1, cy)] = vs ++ cy := by simp [celW]
  have htot : totW [(n', vs), (1, cy)] = n' + 1 := by simp [totW]
  have hB12 := f04.sl hB (fun _ _ _ h => h)
  have hy12 := hy.fr0 f04
  have hr11 : Sl w12 1 (some ⟨b11, 0, none⟩) 2 [Value.slice A' n' c', Value.slice B 1 k] := ⟨rfl, fun _ => ⟨b11, 0, rfl, rec_all r11⟩⟩
  have hvone : ∀ v ∈ vs, v.oneCell' = true := by
    intro v hv
    obtain ⟨j, hj⟩ := List.mem_iff_getElem?.1 hv
    have hjl := (List.getElem?_eq_some_iff.1 hj).1
    have hvl := hs.1
    have gx : x.p[j / 3]? = some (x.p[j / 3]'(by omega)) := List.getElem?_eq_getElem (by omega)
    have hw := hE (j / 3) _ gx
    refine (wr_one hw).2 v (List.mem_iff_getElem?.2 ⟨j % 3, ?_⟩)
    rw [chk_get (by omega), show j / 3 * 3 + j % 3 = j by omega]
    exact hj
  refine (concatW_calls _ 2 2 [Value.slice A' n' c', Value.slice B 1 k] [(n', vs), (1, cy)] w12 hr11 rfl (fun i l hi => ?_) (by rw [htot]; omega) (by omega)).mono ?_
  · match i, hi with
    | 0, hi => simp at hi; subst hi; exact ⟨A', c', rfl, hs, hvone⟩
    | 1, hi => simp at hi; subst hi; exact ⟨B, k, rfl, hB12, hyo.2⟩
    | i + 2, hi => simp at hi
  rintro e w13 ⟨f5, A15, c17, rfl, h15⟩
  rw [htot, hcel] at h15
  rw [htot]
  have f45 := f4.trans1 f5
  have f05 := f0.trans1 f45
  have r3 := r3.fr f45 (fun h => h)
  refine ⟨_, _, _, rfl, kp_mk f45 r1.lt (fun h => h) (gd_mk rfl (r3.st_mk (o := 0) (by show 0 + 2 ≤ 2; omega) (fun v hv => ?_) (fun r3 f7 => ?_)))⟩
  · simp only [List.cons_append, List.nil_append, List.mem_cons, List.not_mem_nil, or_false] at hv
    rcases hv with rfl | rfl <;> rfl
  rw [splice_full (by rfl)] at r3
  have f07 : Fr (fun _ => False) w (stB w13 b3 0 ([Value.slice A n c] ++ ([Value.slice A15 (n' + 1) c17] ++ []))) := f05.trans f7 (fun _ _ h => h) (fun j hj h => by have h : j = b3 := h; omega)
  have h15' := f7.row h15 (fun j hj h => by have h : j = b3 := h; have := (h15.blt hj).1; have := f4.size; omega)
  refine ⟨[.slice A n c, .slice A15 (n' + 1) c17], rfl, rec_all r3, f07, _, rfl, _, _, _, _, _, _, rfl, f07.sl h1 (fun _ _ _ h => h), h2, ⟨vs ++ cy, h15'.sl, by rw [List.length_append, hl]; rfl, ?_⟩, h15'.le⟩
  have f57 : Fr (fun k => k = b3) w12 (stB w13 b3 0 ([Value.slice A n c] ++ ([Value.slice A15 (n' + 1) c17] ++ []))) := f5.trans f7 (fun _ _ h => h.elim) (fun _ _ h => h)
  obtain ⟨vs2, hs2, hl2, hE2⟩ := h3.fr0 f07
  have hEv : Ech 3 (WrP (stB w13 b3 0 ([Value.slice A n c] ++ ([Value.slice A15 (n' + 1) c17] ++ [])))) vs x.p := by
    obtain ⟨vs0, hs0, hl0, hE0⟩ := h3
    have e : vs = vs0 := by
      by_cases h0 : n' = 0
      · have a1 := hs.1
        have a2 := hs0.1
        rw [h0] at a1 a2
        simp at a1 a2
        rw [a1, a2]
      · obtain ⟨q1, o1, e1, c1⟩ := hs.2 h0
        obtain ⟨q2, o2, e2, c2⟩ := (f04.sl hs0 (fun _ _ _ h => h)).2 h0
        rw [e1] at e2
        injection e2 with e2
        injection e2 with e2 e3
        subst e2; subst e3
        apply List.ext_getElem?
        intro j
        by_cases hj : j < vs.length
        · have hj0 : j < vs0.length := by rw [hs0.1, ← hs.1]; exact hj
          have a := c1 j _ (List.getElem?_eq_getElem hj)
          have b := c2 j _ (List.getElem?_eq_getElem hj0)
          rw [a] at b
          rw [List.getElem?_eq_getElem hj, List.getElem?_eq_getElem hj0]
          exact b
        · rw [List.getElem?_eq_none (by omega), List.getElem?_eq_none (by rw [hs0.1, ← hs.1]; omega)]
    rw [e]
    exact hE0.mono (fun cs z hz => hz.fr0 f07)
  exact hEv.snoc hs.1 hl hyo.1 (hy.fr0 f07)
end Go.Proofs.YtfdhaeglhkmmpaaGreat
/- chapter 12, plainly: a disk -/
namespace Go.Proofs.YtfdhaeglhkmmpaaGreat
open Go.GV Go.RowKit Go.Lib
set_option linter.unusedVariables false
set_option linter.unusedSimpArgs false
def zI : Ino := ⟨[], []⟩
/-- a disk: limits, names, files by their numbers, the last number, is it down, the fuse, how many calls were counted -/
structure Dk where
  lb : Int
  lf : Int
  F : Fo
  f : Int → Ino
  last : Int
  down : Bool
  fu : Option Int
  calls : Int
def trim (F : Fo) (f : Int → Ino) : Int → Ino := fun id => if id ∈ idsF F then f id else zI
def takenF (F : Fo) (f : Int → Ino) : Int := ((idsF F).map fun id => roomI (f id)).sum
def updF (f : Int → Ino) (id : Int) (x : Ino) : Int → Ino := fun k => if k = id then x else f k
noncomputable def chD (d : Dk) (c : Ch) : Dk × Int := ({ d with F := doF d.F c, f := trim (doF d.F c) d.f }, wrongF d.F c)
noncomputable def crD (d : Dk) (s : ByteArray) : Dk × Int :=
  if (((idsF d.F).length : Nat) : Int) ≥ d.lf then (d, 8)
  else if wrongF d.F ⟨1, s, ⟨#[]⟩, d.last + 1⟩ = 0 then ({ (chD d ⟨1, s, ⟨#[]⟩, d.last + 1⟩).1 with last := d.last + 1 }, 0)
  else chD d ⟨1, s, ⟨#[]⟩, d.last + 1⟩
def fileD (d : Dk) (s : ByteArray) (g : Ino → Ino × Int) : Dk × Int :=
  match findN s (nowF d.F) with
  | none => (d, 6)
  | some id =>
    if (g (d.f id)).2 ≠ 0 then (d, (g (d.f id)).2)
    else if roomI (g (d.f id)).1 > roomI (d.f id) ∧ takenF d.F (updF d.f id (g (d.f id)).1) > d.lb then (d, 9)
    else ({ d with f := updF d.f id (g (d.f id)).1 }, 0)
def offD (d : Dk) : Bool := d.down || (match d.fu with | some n => decide (n ≤ 0) | none => false)
def powD (d : Dk) (call : Dk → Dk × Int) : Dk × Int :=
  if offD d = true then ({ d with down := true }, 11) else call { d with fu := d.fu.map (· - 1), calls := d.calls + 1 }
def sdD (d : Dk) : Dk × Int := ({ d with F := ⟨nowF d.F, []⟩, f := trim ⟨nowF d.F, []⟩ d.f }, 0)
/-- what a crash leaves of files, one by one -/
def crashS (f : Int → Ino) : List Int → Bs → Int → Ino
  | [], _ => f
  | id :: r, c => crashS (updF f id (crashI (f id) c).1) r (crashI (f id) c).2
def headC (c : Bs) : Int := match c with | [] => 0 | x :: _ => (x.toNat : Int)
def crashD (d : Dk) (c : Bs) : Dk :=
  { d with F := ⟨behF d.F (headC c), []⟩, f := trim ⟨behF d.F (headC c), []⟩ (crashS d.f (idsF d.F) c.tail), down := false, fu := none }
def fuseD (d : Dk) (n : Int) : Dk := { d with fu := if n ≥ 0 then some n else none }
/-- a call -/
structure Cl where
  k : Int
  nm : ByteArray
  to : ByteArray
  data : Bs
  n : Int
noncomputable def doD (d : Dk) (c : Cl) : Dk × Int :=
  if c.k = 1 then powD d (fun d => crD d c.nm)
  else if c.k = 2 then powD d (fun d => fileD d c.nm (fun x => appI x c.data))
  else if c.k = 3 then powD d (fun d => fileD d c.nm (fun x => cutI x c.n))
  else if c.k = 4 then powD d (fun d => fileD d c.nm (fun x => (syncI x, 0)))
  else if c.k = 5 then powD d (fun d => chD d ⟨2, c.nm, c.to, 0⟩)
  else if c.k = 6 then powD d (fun d => chD d ⟨3, c.nm, ⟨#[]⟩, 0⟩)
  else if c.k = 7 then powD d sdD
  else if c.k = 8 then (fuseD d c.n, 0)
  else if c.k = 9 then (crashD d c.data, 0)
  else (d, 0)
noncomputable def runD (d : Dk) (l : List Cl) : Dk := l.foldl (fun d c => (doD d c).1) d
/-! ### what is asked of a disk -/
def lookD (d : Dk) (s : ByteArray) : Bs × Int :=
  if d.down = true then ([], 11) else match findN s (nowF d.F) with | none => ([], 6) | some id => (nowI (d.f id), 0)
def readD (d : Dk) (s : ByteArray) (off n : Int) : Bs × Int :=
  if (lookD d s).2 ≠ 0 then ([], (lookD d s).2)
  else if off < 0 ∨ n < 0 ∨ off > ((lookD d s).1.length : Int) ∨ n > ((lookD d s).1.length : Int) - off then ([], 20)
  else (((lookD d s).1.drop off.toNat).take n.toNat, 0)
def leftD (lim n : Int) : Int := if lim ≤ n then 0 else lim - n
def freeD (d : Dk) : Int × Int := (leftD d.lb (takenF d.F d.f), leftD d.lf (((idsF d.F).length : Nat) : Int))
def imageD (d : Dk) : List (ByteArray × Bs) := (nowF ⟨d.F.L, []⟩).map fun x => (x.1, (d.f x.2).b)
/-! ### a disk that may be -/
structure DkI (d : Dk) : Prop where
  out : ∀ id, id ∉ idsF d.F → d.f id = zI
  rng : ∀ id ∈ idsF d.F, 1 ≤ id ∧ id ≤ d.last
  ino : ∀ id, InoB (d.f id)
  fu : ∀ n, d.fu = some n → 0 ≤ n
theorem zI_B : InoB zI := ⟨by simp [zI], fun y hy => by cases hy⟩
theorem trim_in {F : Fo} {f : Int → Ino} {id : Int} (h : id ∈ idsF F) : trim F f id = f id := if_pos h
theorem trim_out {F : Fo} {f : Int → Ino} {id : Int} (h : id ∉ idsF F) : trim F f id = zI := if_neg h
theorem trim_B {F : Fo} {f : Int → Ino} (h : ∀ id, InoB (f id)) (id : Int) : InoB (trim F f id) := by
  unfold trim
  split
  · exact h id
  · exact zI_B
theorem updF_B {f : Int → Ino} (h : ∀ id, InoB (f id)) {k : Int} {x : Ino} (hx : InoB x) (id : Int) : InoB (updF f k x id) := by
  unfold updF
  split
  · exact hx
  · exact h id
theorem appI_B {x : Ino} (h : InoB x) (b : Bs) : InoB (appI x b).1 := by
  unfold appI
  split
  · exact h
  · split
    · exact h
    · rename_i h1 _
      refine ⟨h.b, fun y hy => ?_⟩
      rcases List.mem_append.1 hy with hy | hy
      · exact h.d y hy
      · rw [List.mem_singleton.1 hy]
        show b.length ≤ 1048576
        omega
theorem cutI_B {x : Ino} (h : InoB x) (n : Int) : InoB (cutI x n).1 := by
  unfold cutI
  split
  · exact h
  · refine ⟨h.b, fun y hy => ?_⟩
    rcases List.mem_append.1 hy with hy | hy
    · exact h.d y hy
    · rw [List.mem_singleton.1 hy]; simp
theorem syncI_B {x : Ino} (h : InoB x) : InoB (syncI x) := ⟨now_le h, fun y hy => by cases hy⟩
theorem crashI_B {x : Ino} (h : InoB x) (c : Bs) : InoB (crashI x c).1 := by
  have h1 := survW_len x.p x.b c
  have h2 := peakW_le x.p (n := (x.b.length : Int)) (by have := h.b; omega)
  exact ⟨by show (survW x.b x.p c).length ≤ 1048576; omega, fun y hy => by cases hy⟩
theorem crashS_B : ∀ (l : List Int) (f : Int → Ino) (c : Bs), (∀ id, InoB (f id)) → ∀ id, InoB (crashS f l c id)
  | [], f, c, h, id => h id
  | k :: l, f, c, h, id => crashS_B l _ _ (updF_B h (crashI_B (h k) c)) id
theorem crashS_out : ∀ (l : List Int) (f : Int → Ino) (c : Bs) (id : Int), id ∉ l → crashS f l c id = f id
  | [], f, c, id, _ => rfl
  | k :: l, f, c, id, h => by
    simp only [List.mem_cons, not_or] at h
    rw [crashS, crashS_out l _ _ id h.2]
    unfold updF
    rw [if_neg h.1]
end Go.Proofs.YtfdhaeglhkmmpaaGreat
/- chapter 10: Append, Cut -/
namespace Go.Proofs.YtfdhaeglhkmmpaaGreat
open Go.GV Go.RowKit Go.Lib
set_option linter.unusedVariables false
set_option linter.unusedSimpArgs false
/-- the answer is laid in its variable, and read -/
theorem ans_mk {w : World} {b : Nat} {e : TypeId} {old cs : List Value} (r : RecAt w b e old) (ho : old.length = 2) (hc : cs.length = 2) (h1 : ∀ v ∈ cs, v.oneCell' = true) {K : List Value → World → Prop} (hK : ∀ w', Fr (fun k => k = b) w w' → K cs w') :
    gd (cs.length == 2) (st w b 0 cs fun w1 => ldA 2 w1 b 0 fun a => K a w1) := by
  refine gd_mk (by rw [hc]; rfl) (r.st_mk (o := 0) (by rw [hc, ho]; omega) h1 (fun r1 f1 => ?_))
  rw [splice_full (by rw [hc, ho])] at r1
  exact ⟨cs, hc, rec_all r1, hK _ f1⟩
set_option maxHeartbeats 1000000 in
theorem app_calls (cs : List Value) (x : Ino) (A : Option Addr) (n c : Nat) (b : Bs) (w : World) (h : InoAt w cs x) (hA : Sl w 1 A n (bys b)) (hb : InoB x) (hp : x.p.length ≤ 1099511627774) (hn : n ≤ 1099511627776) :
    Calls Tryz.prog 41 #[ofL cs, .slice A n c] w fun e w' => Fr (fun _ => False) w w' ∧ ∃ cs', e = .returned (.tuple #[ofL cs', .int .i64 (appI x b).2]) ∧ InoAt w' cs' (appI x b).1 := by
  refine (F41.of cs A n c w (Q := fun v w' => Fr (fun _ => False) w w' ∧ ∃ cs', v = .tuple #[ofL cs', .int .i64 (appI x b).2] ∧ InoAt w' cs' (appI x b).1) ?_).mono (fun e w' ⟨v, he, hf, cs', hv, h⟩ => ⟨hf, cs', by rw [he, hv], h⟩)
  have hone := ino_one h
  have hbl := by_n hA
  have hnow := now_le hb
  refine rec_new (fun b1 w2 f1 hb1 r1 => rec_new (fun b3 w4 f3 hb3 r3 => ⟨cs, hone.1, rec_all (r1.fr f3 (fun h => h)), ?_⟩))
  have r1 := r1.fr f3 (fun h => h)
  have hl3 := r3.lt
  have hs1 := f1.size
  have f13 := f1.trans1 f3
  have lt3 : ∀ k, k < w.heap.size → ¬ k = b3 := fun k hk h => by omega
  refine (now_calls' cs x w4 (h.fr0 f13) hb (by omega)).mono ?_
  rintro e w6 ⟨f6, B, k, rfl, h6⟩
  have r1 := r1.fr f6 (fun h => h)
  have r3 := r3.fr f6 (fun h => h)
  have f16 := f13.trans1 f6
  have ew : IntKind.wrap .i64 (1048576 - (((nowI x).length : Nat) : Int)) = 1048576 - ((nowI x).length : Int) := i64_id (by omega) (by omega)
  -- as it was, with an error's number
  have keep : ∀ k : Int, appI x b = (x, k) → ∀ v, Fr (fun j => j = b3) w6 v → Fr (fun _ => False) w v ∧ ∃ cs', Value.tuple #[ofL cs, .int .i64 k] = .tuple #[ofL cs', .int .i64 (appI x b).2] ∧ InoAt v cs' (appI x b).1 := by
    intro k hk v fv
    have f := f16.trans fv (U := fun _ => False) (fun _ _ h => h) (fun j hj h => lt3 j hj h)
    exact ⟨f, cs, by rw [hk], by rw [hk]; exact h.fr0 f⟩
  refine ⟨_, _, _, rfl, ?_⟩
  rw [ew]
  refine vIf_mk (fun hbig => ⟨cs, hone.1, rec_all r1, ans_mk r3 rfl hone.1 hone.2 (fun v fv => keep 18 ?_ v fv)⟩) (fun hbig => vIf_mk (fun h0 => ⟨cs, hone.1, rec_all r1, ans_mk r3 rfl hone.1 hone.2 (fun v fv => keep 0 ?_ v fv)⟩) (fun h0 => ?_))
  · have hbig := of_decide_eq_true hbig
    unfold appI
    rw [if_pos (by omega)]
  · have hbig := of_decide_eq_false hbig
    have h0 : (n : Int) = 0 := by simpa using h0
    have hb0 : b = [] := List.length_eq_zero_iff.1 (by omega)
    unfold appI
    rw [if_neg (by omega), if_pos hb0]
  · have hbig := of_decide_eq_false hbig
    have h0 : ¬ (n : Int) = 0 := by simpa using h0
    have hb0 : b ≠ [] := fun e => by rw [e] at hbl; simp at hbl; omega
    have eA : appI x b = (⟨x.b, x.p ++ [⟨false, ((nowI x).length : Int), b⟩]⟩, 0) := by
      unfold appI
      rw [if_neg (by omega), if_neg hb0]
    have fd : Fr (fun _ => False) w6 w6.drew := Fr.drew _ _
    have r1 := r1.fr fd (fun h => h)
    have r3 := r3.fr fd (fun h => h)
    have f1d := f16.trans1 fd
    generalize w6.drew = w7 at fd r1 r3 f1d ⊢
    refine ⟨cs, hone.1, rec_all r1, (clone_by A n c b w7 (f1d.sl hA (fun _ _ _ h => h)) hn).mono ?_⟩
    rintro e w18 ⟨f8, A20, c22, rfl, h20⟩
    have f18 := f1d.trans1 f8
    refine ⟨_, _, _, rfl, kp_mk f8 r1.lt (fun h => h) (gd_mk rfl (rec_new (fun b23 w24 f9 hb23 r23 => kp_mk (f8.trans1 f9) r1.lt (fun h => h) ?_)))⟩
    have f19 := f18.trans1 f9
    have r3 := (r3.fr f8 (fun h => h)).fr f9 (fun h => h)
    have h20' := f9.row h20 (fun _ _ h => h)
    have hW : Sl w24 3 (some ⟨b23, 0, none⟩) 1 [.bool false, .int .i64 ((nowI x).length : Int), .slice A20 n c22] := ⟨rfl, fun _ => ⟨b23, 0, rfl, rec_all r23⟩⟩
    have hWP : WrP w24 [.bool false, .int .i64 ((nowI x).length : Int), .slice A20 n c22] ⟨false, ((nowI x).length : Int), b⟩ := ⟨A20, n, c22, rfl, h20'.sl, h20.le⟩
    refine (with_calls cs x _ 1 _ _ w24 (h.fr0 f19) hW hWP (by omega)).mono ?_
    rintro e w25 ⟨f10, cs', rfl, hI⟩
    have hI1 := ino_one hI
    have r3 := r3.fr f10 (fun h => h)
    refine ⟨_, rfl, ans_mk r3 rfl hI1.1 hI1.2 (fun v fv => ?_)⟩
    have f := (f19.trans1 f10).trans fv (U := fun _ => False) (fun _ _ h => h) (fun j hj h => lt3 j hj h)
    refine ⟨f, cs', by rw [eA], ?_⟩
    rw [eA]
    refine hI.fr fv (fun j hj => ?_)
    have hj : j = b3 := hj
    subst hj
    have hc3 : ∀ o, cellAt w25 j o = ([Value.slice none 0 0, Value.slice none 0 0] : List Value)[o]? := fun o => by rw [cellAt_blk r3]; simp
    refine ⟨fun o s hs => ?_, fun o u hu => ?_, fun o t z A n c ht => ?_⟩
    · rw [hc3] at hs
      match o, hs with
      | 0, hs => cases hs
      | 1, hs => cases hs
      | o + 2, hs => cases hs
    · rw [hc3] at hu
      match o, hu with
      | 0, hu => cases hu
      | 1, hu => cases hu
      | o + 2, hu => cases hu
    · have ht := ht.1
      rw [hc3] at ht
      match o, ht with
      | 0, ht => cases ht
      | 1, ht => cases ht
      | o + 2, ht => cases ht
end Go.Proofs.YtfdhaeglhkmmpaaGreat
/- chapter 10: Cut -/
namespace Go.Proofs.YtfdhaeglhkmmpaaGreat
open Go.GV Go.RowKit Go.Lib
set_option linter.unusedVariables false
set_option linter.unusedSimpArgs false
theorem two_alien {w : World} {b : Nat} {e : TypeId} (r : RecAt w b e [Value.slice none 0 0, Value.slice none 0 0]) : Alien w b := by
  have hc3 : ∀ o, cellAt w b o = ([Value.slice none 0 0, Value.slice none 0 0] : List Value)[o]? := fun o => by rw [cellAt_blk r]; simp
  refine ⟨fun o s hs => ?_, fun o u hu => ?_, fun o t z A n c ht => ?_⟩
  · rw [hc3] at hs
    match o, hs with
    | 0, hs => cases hs
    | 1, hs => cases hs
    | o + 2, hs => cases hs
  · rw [hc3] at hu
    match o, hu with
    | 0, hu => cases hu
    | 1, hu => cases hu
    | o + 2, hu => cases hu
  · have ht := ht.1
    rw [hc3] at ht
    match o, ht with
    | 0, ht => cases ht
    | 1, ht => cases ht
    | o + 2, ht => cases ht
set_option maxHeartbeats 1000000 in
theorem cutI_calls (cs : List Value) (x : Ino) (m : Int) (w : World) (h : InoAt w cs x) (hb : InoB x) (hp : x.p.length ≤ 1099511627774) :
    Calls Tryz.prog 66 #[ofL cs, .int .i64 m] w fun e w' => Fr (fun _ => False) w w' ∧ ∃ cs', e = .returned (.tuple #[ofL cs', .int .i64 (cutI x m).2]) ∧ InoAt w' cs' (cutI x m).1 := by
  refine (F66.of cs m w (Q := fun v w' => Fr (fun _ => False) w w' ∧ ∃ cs', v = .tuple #[ofL cs', .int .i64 (cutI x m).2] ∧ InoAt w' cs' (cutI x m).1) ?_).mono (fun e w' ⟨v, he, hf, cs', hv, h⟩ => ⟨hf, cs', by rw [he, hv], h⟩)
  have hone := ino_one h
  refine rec_new (fun b1 w2 f1 hb1 r1 => rec_new (fun b3 w4 f3 hb3 r3 => ?_))
  have r1 := r1.fr f3 (fun h => h)
  have hs1 := f1.size
  have f13 := f1.trans1 f3
  have lt3 : ∀ k, k < w.heap.size → ¬ k = b3 := fun k hk h => by omega
  -- out of its range
  have bad : cutI x m = (x, 20) → ∀ v, Fr (fun _ => False) w4 v → jnC (F66.k2 (fun v w' => Fr (fun _ => False) w w' ∧ ∃ cs', v = .tuple #[ofL cs', .int .i64 (cutI x m).2] ∧ InoAt w' cs' (cutI x m).1)) (m, (b1, 0), (b3, 0), true, ()) v := by
    intro e v fv
    refine jnC_mk (fun _ => vIf_t rfl ⟨cs, hone.1, rec_all (r1.fr fv (fun h => h)), ans_mk (r3.fr fv (fun h => h)) rfl hone.1 hone.2 (fun u fu => ?_)⟩)
    have f := (f13.trans1 fv).trans fu (U := fun _ => False) (fun _ _ h => h) (fun j hj h => lt3 j hj h)
    exact ⟨f, cs, by rw [e], by rw [e]; exact h.fr0 f⟩
  -- in it
  have good : cutI x m = (⟨x.b, x.p ++ [⟨true, m, []⟩]⟩, 0) → ∀ v, Fr (fun _ => False) w4 v → jnC (F66.k2 (fun v w' => Fr (fun _ => False) w w' ∧ ∃ cs', v = .tuple #[ofL cs', .int .i64 (cutI x m).2] ∧ InoAt w' cs' (cutI x m).1)) (m, (b1, 0), (b3, 0), false, ()) v := by
    intro e v fv
    refine jnC_mk (fun _ => vIf_f rfl (jnC_mk (fun _ => ⟨cs, hone.1, rec_all (r1.fr fv (fun h => h)), gd_mk rfl (rec_new (fun b9 w10 f9 hb9 r9 => ?_))⟩)))
    have f19 := (f13.trans1 fv).trans1 f9
    have r3 := (r3.fr fv (fun h => h)).fr f9 (fun h => h)
    have hW : Sl w10 3 (some ⟨b9, 0, none⟩) 1 [.bool true, .int .i64 m, .slice none 0 0] := ⟨rfl, fun _ => ⟨b9, 0, rfl, rec_all r9⟩⟩
    have hWP : WrP w10 [.bool true, .int .i64 m, .slice none 0 0] ⟨true, m, []⟩ := ⟨none, 0, 0, rfl, Sl.nil _ _ _, Nat.le_refl _⟩
    refine (with_calls cs x _ 1 _ _ w10 (h.fr0 f19) hW hWP (by omega)).mono ?_
    rintro r w11 ⟨f10, cs', rfl, hI⟩
    have hI1 := ino_one hI
    have r3 := r3.fr f10 (fun h => h)
    refine ⟨_, rfl, ans_mk r3 rfl hI1.1 hI1.2 (fun u fu => ?_)⟩
    have f := (f19.trans1 f10).trans fu (U := fun _ => False) (fun _ _ h => h) (fun j hj h => lt3 j hj h)
    refine ⟨f, cs', by rw [e], ?_⟩
    rw [e]
    exact hI.fr fu (fun j hj => by have hj : j = b3 := hj; subst hj; exact two_alien r3)
  refine vIf_mk (fun hneg => bad ?_ w4 (Fr.refl _ _)) (fun hneg => ⟨cs, hone.1, rec_all r1, (now_calls' cs x w4 (h.fr0 f13) hb (by omega)).mono ?_⟩)
  · have hneg := of_decide_eq_true hneg
    unfold cutI
    rw [if_pos (.inl hneg)]
  · have hneg := of_decide_eq_false hneg
    rintro e w17 ⟨f6, B, k, rfl, h6⟩
    refine ⟨_, _, _, rfl, ?_⟩
    cases hc : decide (m > (((nowI x).length : Nat) : Int)) with
    | true =>
      have hc := of_decide_eq_true hc
      refine bad ?_ w17 f6
      unfold cutI
      rw [if_pos (.inr hc)]
    | false =>
      have hc := of_decide_eq_false hc
      refine good ?_ w17 f6
      unfold cutI
      rw [if_neg (fun h => h.elim hneg hc)]
end Go.Proofs.YtfdhaeglhkmmpaaGreat
/- chapter 09: what survives of one change -/
namespace Go.Proofs.YtfdhaeglhkmmpaaGreat
open Go.GV Go.RowKit Go.Lib
set_option linter.unusedVariables false
set_option linter.unusedSimpArgs false
/-- a byte of a slice -/
theorem by_rd {w : World} {A : Option Addr} {n : Nat} {b : Bs} (h : Sl w 1 A n (bys b)) {i : Nat} {x : UInt8} (hi : b[i]? = some x) (hin : i < n) {K : Int → Prop} (hK : K (x.toNat : Int)) :
    dr A fun c o => gd (decide (0 ≤ (i : Int))) (gd (decide ((i : Int) < ((n : Nat) : Int))) (ldI .u8 w c (o + ((i : Int)).toNat * 1) K)) := by
  obtain ⟨c, o, rfl, hc⟩ := h.2 (by omega)
  refine dr_mk (gd_mk (decide_eq_true (by omega)) (gd_mk (decide_eq_true (by omega)) ⟨_, ?_, hK⟩))
  rw [Int.toNat_natCast, Nat.mul_one]
  exact hc i _ (by simp [bys, hi]; rfl)
theorem ans3_mk {w : World} {b : Nat} {e : TypeId} {old cs : List Value} (r : RecAt w b e old) (ho : old.length = 3) (hc : cs.length = 3) (h1 : ∀ v ∈ cs, v.oneCell' = true) {K : List Value → World → Prop} (hK : ∀ w', Fr (fun k => k = b) w w' → K cs w') :
    gd (cs.length == 3) (st w b 0 cs fun w1 => ldA 3 w1 b 0 fun a => K a w1) := by
  refine gd_mk (by rw [hc]; rfl) (r.st_mk (o := 0) (by rw [hc, ho]; omega) h1 (fun r1 f1 => ?_))
  rw [splice_full (by rw [hc, ho])] at r1
  exact ⟨cs, hc, rec_all r1, hK _ f1⟩
theorem by_neU {w : World} {A : Option Addr} {n : Nat} {b : Bs} (h : Sl w 1 A n (bys b)) (h0 : n ≠ 0) {k : Nat} (hk : blkOf A = some k) (ha : ∀ o x, cellAt w k o ≠ some (.int .u8 x)) : False := by
  have hl := by_n h
  obtain ⟨b', o, rfl, hc⟩ := h.2 (by omega)
  injection hk with hk
  have hk : b' = k := hk
  subst hk
  cases hb : b with
  | nil => rw [hb] at hl; simp at hl; omega
  | cons x r => exact ha (o + 0) x.toNat (hc 0 _ (by rw [hb]; rfl))
/-- does it survive? -/
def livesS (x : Wr) (ch : Bs) (i : Nat) : Bool := match ch[i]? with | none => false | some c => decide (c ≠ 0) && rightW x
set_option maxRecDepth 100000 in
set_option maxHeartbeats 1000000 in
theorem surv1_calls (i : Nat) (cs : List Value) (x : Wr) (pb : Nat) (C : Option Addr) (nc cc : Nat) (ch : Bs) (w : World) (h : WrP w cs x) (hd : x.data.length ≤ 1048576) (hr : RecAt w pb 23 [.slice C nc cc]) (hC : Sl w 1 C nc (bys ch)) (hi : i ≤ 1099511627776) :
    Calls Tryz.prog 94 #[.int .i64 (i : Int), ofL cs, .pointer (some ⟨pb, 0, none⟩)] w fun e w' => Fr (fun _ => False) w w' ∧ ∃ cs', e = .returned (.tuple #[ofL cs', .bool (livesS x ch i)]) ∧ cs'.length = 3 ∧ (∀ v ∈ cs', v.oneCell' = true) ∧ ∀ c, ch[i]? = some c → livesS x ch i = true → WrP w' cs' (partW x c) := by
  refine (F94.of (i : Int) cs (pb, 0) w (Q := fun v w' => Fr (fun _ => False) w w' ∧ ∃ cs', v = .tuple #[ofL cs', .bool (livesS x ch i)] ∧ cs'.length = 3 ∧ (∀ v ∈ cs', v.oneCell' = true) ∧ ∀ c, ch[i]? = some c → livesS x ch i = true → WrP w' cs' (partW x c)) ?_).mono (fun e w' ⟨v, he, hf, cs', hv, h⟩ => ⟨hf, cs', by rw [he, hv], h⟩)
  have hone := wr_one h
  have hcl := by_n hC
  refine rec_new (fun b1 w2 f1 hb1 r1 => rec_new (fun b3 w4 f3 hb3 r3 => ?_))
  have hl1 := r1.lt
  have r1 := r1.fr f3 (fun h => h)
  have hs1 := f1.size
  have f13 := f1.trans1 f3
  have rp := hr.fr f13 (fun h => h)
  have hC4 := f13.sl hC (fun _ _ _ h => h)
  have hx4 := h.fr0 f13
  -- it doesn't
  have no : livesS x ch i = false → ∀ v, Fr (fun _ => False) w4 v → jnC (F94.k2 (fun v w' => Fr (fun _ => False) w w' ∧ ∃ cs', v = .tuple #[ofL cs', .bool (livesS x ch i)] ∧ cs'.length = 3 ∧ (∀ v ∈ cs', v.oneCell' = true) ∧ ∀ c, ch[i]? = some c → livesS x ch i = true → WrP w' cs' (partW x c))) ((i : Int), (pb, 0), (b1, 0), (b3, 0), true, ()) v := by
    intro e v fv
    refine jnC_mk (fun _ => vIf_t rfl ⟨cs, hone.1, rec_all (r1.fr fv (fun h => h)), ans3_mk (r3.fr fv (fun h => h)) rfl hone.1 hone.2 (fun u fu => ⟨(f13.trans1 fv).trans fu (fun _ _ h => h) (fun j hj h => ?_), cs, by rw [e], hone.1, hone.2, fun c _ hl => by rw [e] at hl; cases hl⟩)⟩)
    have h : j = b3 := h
    omega
  -- it does
  have yes : ∀ c, ch[i]? = some c → livesS x ch i = true → ∀ v, Fr (fun _ => False) w4 v → jnC (F94.k2 (fun v w' => Fr (fun _ => False) w w' ∧ ∃ cs', v = .tuple #[ofL cs', .bool (livesS x ch i)] ∧ cs'.length = 3 ∧ (∀ v ∈ cs', v.oneCell' = true) ∧ ∀ c, ch[i]? = some c → livesS x ch i = true → WrP w' cs' (partW x c))) ((i : Int), (pb, 0), (b1, 0), (b3, 0), false, ()) v := by
    intro c hci e v fv
    have hil := (List.getElem?_eq_some_iff.1 hci).1
    have hc8 : c.toNat < 256 := c.toNat_lt
    have ew : IntKind.wrap .i64 ((c.toNat : Nat) : Int) = (c.toNat : Int) := i64_id (by omega) (by omega)
    have r1v := r1.fr fv (fun h => h)
    have r3v := r3.fr fv (fun h => h)
    have f1v := f13.trans1 fv
    obtain ⟨B, m, k, ecs, hB, hmk⟩ := hx4
    subst ecs
    have hm := by_n hB
    have hBv := fv.sl hB (fun _ _ _ h => h)
    -- the answer
    have k6 : ∀ (cs2 : List Value) (u : World), Fr (fun j => j = b1) v u → RecAt u b1 124 cs2 → WrP u cs2 (partW x c) → jnC (F94.k6 (fun v w' => Fr (fun _ => False) w w' ∧ ∃ cs', v = .tuple #[ofL cs', .bool (livesS x ch i)] ∧ cs'.length = 3 ∧ (∀ v ∈ cs', v.oneCell' = true) ∧ ∀ c, ch[i]? = some c → livesS x ch i = true → WrP w' cs' (partW x c))) ((b1, 0), (b3, 0), ()) u := by
      intro cs2 u fu ru hw2
      have ho2 := wr_one hw2
      have hs4 := f3.size
      have fwu : Fr (fun _ => False) w u := f1v.trans fu (fun _ _ h => h) (fun j hj h => by have h : j = b1 := h; omega)
      refine jnC_mk (fun _ => ⟨cs2, ho2.1, rec_all ru, ans3_mk (r3v.fr fu (fun h => by have h : b3 = b1 := h; omega)) rfl ho2.1 ho2.2 (fun u2 fu2 => ⟨fwu.trans fu2 (fun _ _ h => h) (fun j hj h => ?_), cs2, by rw [e], ho2.1, ho2.2, fun c' hc' _ => ?_⟩)⟩)
      · have h : j = b3 := h
        omega
      · rw [hci] at hc'
        injection hc' with hc'
        subst hc'
        obtain ⟨B2, m2, k2, e2, hB2, hk2⟩ := hw2
        refine ⟨B2, m2, k2, e2, ?_, hk2⟩
        -- its bytes lie apart from the answer's block
        refine fu2.sl hB2 (fun h0 j hj hjb => ?_)
        have hjb : j = b3 := hjb
        subst hjb
        have r3u := r3v.fr fu (fun h => by have h : j = b1 := h; omega)
        refine by_neU hB2 h0 hj (fun o y hy => ?_)
        rw [cellAt_blk r3u] at hy
        match o, hy with
        | 0, hy => simp at hy
        | 1, hy => simp at hy
        | 2, hy => simp at hy
        | o + 3, hy => simp at hy
    have whole : c.toNat ≥ 255 ∨ c.toNat ≥ x.data.length → partW x c = x := fun hcc => by
      unfold partW
      rw [if_neg (fun h => by have := h.1; have := h.2; omega)]
    have hWv : WrP v [.bool x.cut, .int .i64 x.off, .slice B m k] x := ⟨B, m, k, rfl, hBv, hmk⟩
    -- is it cut short?
    have k5 : ∀ t : Bool, (t = true → c.toNat < 255 ∧ c.toNat < x.data.length) → (t = false → c.toNat ≥ 255 ∨ c.toNat ≥ x.data.length) → jnC (F94.k5 (fun v w' => Fr (fun _ => False) w w' ∧ ∃ cs', v = .tuple #[ofL cs', .bool (livesS x ch i)] ∧ cs'.length = 3 ∧ (∀ v ∈ cs', v.oneCell' = true) ∧ ∀ c, ch[i]? = some c → livesS x ch i = true → WrP w' cs' (partW x c))) ((b1, 0), (b3, 0), ((c.toNat : Nat) : Int), t, ()) v := by
      intro t ht1 ht2
      refine jnC_mk (fun _ => vIf_mk (fun h1 => ?_) (fun h1 => ?_))
      · obtain ⟨h255, hlen⟩ := ht1 h1
        dsimp only
        refine ⟨B, m, k, r1v.cell (o := 0 + 2) rfl, gd_mk (decide_eq_true (by omega)) (gd_mk (decide_eq_true (by omega)) ?_)⟩
        rw [Int.toNat_natCast]
        refine r1v.st_mk (o := 0 + 2) (by show 0 + 2 + 1 ≤ 3; omega) (fun v hv => by simp at hv; subst hv; rfl) (fun r1u fu => ?_)
        have e2 : splice [Value.bool x.cut, Value.int .i64 x.off, Value.slice B m k] (0 + 2) [Value.slice (slA B k 0 1) c.toNat k] = [.bool x.cut, .int .i64 x.off, .slice (slA B k 0 1) c.toNat k] := rfl
        rw [e2] at r1u
        have ep : partW x c = { x with data := x.data.take c.toNat } := by
          unfold partW
          rw [if_pos ⟨h255, hlen⟩]
        have hs := sl_cut0 (c := k) hBv (show c.toNat ≤ m by omega)
        have eb : bys (x.data.take c.toNat) = (bys x.data).take (c.toNat * 1) := by simp [bys, List.map_take]
        refine k6 _ _ fu r1u ⟨slA B k 0 1, c.toNat, k, by rw [ep], ?_, by omega⟩
        rw [ep]
        show Sl _ 1 _ _ (bys (x.data.take c.toNat))
        rw [eb]
        refine fu.sl hs (fun h0 j hj hjb => ?_)
        have hjb : j = b1 := hjb
        subst hjb
        have hs2 : Sl v 1 (slA B k 0 1) c.toNat (bys (x.data.take c.toNat)) := by rw [eb]; exact hs
        refine by_neU hs2 h0 hj (fun o y hy => ?_)
        rw [cellAt_blk r1v] at hy
        match o, hy with
        | 0, hy => simp at hy
        | 1, hy => simp at hy
        | 2, hy => simp at hy
        | o + 3, hy => simp at hy
      · have hw := whole (ht2 h1)
        exact k6 _ v (Fr.refl _ _) r1v (by rw [hw]; exact hWv)
    have rpv := rp.fr fv (fun h => h)
    have hCv := fv.sl hC4 (fun _ _ _ h => h)
    refine jnC_mk (fun _ => vIf_f rfl (jnC_mk (fun _ => ⟨C, nc, cc, rpv.cell (o := 0) rfl, by_rd hCv hci (by omega) ?_⟩)))
    rw [ew]
    refine vIf_mk (fun h1 => ⟨B, m, k, r1v.cell (o := 0 + 2) rfl, k5 (decide ((c.toNat : Int) < ((m : Nat) : Int))) (fun ht => ?_) (fun ht => ?_)⟩) (fun h1 => k5 false (fun ht => by cases ht) (fun _ => .inl ?_))
    · have h1 := of_decide_eq_true h1
      have ht := of_decide_eq_true ht
      omega
    · have ht := of_decide_eq_false ht
      right; omega
    · have h1 := of_decide_eq_false h1
      omega
  refine ⟨C, nc, cc, rp.cell (o := 0) rfl, vIf_mk (fun hge => ?_) (fun hlt => ⟨C, nc, cc, rp.cell (o := 0) rfl, ?_⟩)⟩
  · have hge := of_decide_eq_true hge
    refine no ?_ w4 (Fr.refl _ _)
    unfold livesS
    rw [List.getElem?_eq_none (by omega)]
  · have hlt := of_decide_eq_false hlt
    have gc : ch[i]? = some (ch[i]'(by omega)) := List.getElem?_eq_getElem (by omega)
    generalize ch[i]'(by omega) = c at gc
    have el : livesS x ch i = (decide (c ≠ 0) && rightW x) := by unfold livesS; rw [gc]
    refine by_rd hC4 gc (by omega) (vIf_mk (fun hz => no ?_ w4 (Fr.refl _ _)) (fun hz => ⟨cs, hone.1, rec_all r1, (right_calls cs x w4 hx4 (by omega)).mono ?_⟩))
    · have hz : (c.toNat : Int) = 0 := by simpa using hz
      have hc0 : c = 0 := UInt8.toNat_inj.1 (by show c.toNat = 0; omega)
      rw [el, hc0]; rfl
    · have hz : ¬ (c.toNat : Int) = 0 := by simpa using hz
      have hc0 : c ≠ 0 := fun e => hz (by rw [e]; rfl)
      rintro e v ⟨rfl, fv⟩
      refine ⟨_, rfl, ?_⟩
      have el2 : livesS x ch i = rightW x := by rw [el, decide_eq_true hc0, Bool.true_and]
      cases hr : rightW x with
      | true => exact yes c gc (by rw [el2, hr]) v fv
      | false => exact no (by rw [el2, hr]) v fv
end Go.Proofs.YtfdhaeglhkmmpaaGreat
/- chapter 09: Survive -/
namespace Go.Proofs.YtfdhaeglhkmmpaaGreat
open Go.GV Go.RowKit Go.Lib
set_option linter.unusedVariables false
set_option linter.unusedSimpArgs false
theorem survW_snoc : ∀ (l : List Wr) (x : Wr) (b ch : Bs), survW b (l ++ [x]) ch = match ch[l.length]? with | none => survW b l ch | some c => survS (survW b l ch) x c
  | [], x, b, [] => rfl
  | [], x, b, c :: r => by
    show survW (survS b x c) [] r = survS b x c
    cases r <;> rfl
  | y :: l, x, b, [] => rfl
  | y :: l, x, b, c :: r => by
    show survW (survS b y c) (l ++ [x]) r = _
    rw [survW_snoc l x (survS b y c) r]
    rfl
theorem survW_step {l : List Wr} {i : Nat} {x : Wr} (h : l[i]? = some x) (b ch : Bs) : survW b (l.take (i + 1)) ch = match ch[i]? with | none => survW b (l.take i) ch | some c => survS (survW b (l.take i) ch) x c := by
  have hi := (List.getElem?_eq_some_iff.1 h).1
  rw [takeW h, survW_snoc, List.length_take, Nat.min_eq_left (by omega)]
theorem surv_le {b : Bs} {l : List Wr} {ch : Bs} (hb : b.length ≤ 1048576) : (survW b l ch).length ≤ 1048576 := by
  have h1 := survW_len l b ch
  have h2 := peakW_le l (n := (b.length : Int)) (by omega)
  omega
theorem part_len (x : Wr) (c : UInt8) (h : x.data.length ≤ 1048576) : (partW x c).data.length ≤ 1048576 := by
  unfold partW
  split
  · show (x.data.take c.toNat).length ≤ _
    rw [List.length_take]; omega
  · exact h
set_option maxHeartbeats 1000000 in
theorem surv_calls (A : Option Addr) (n c : Nat) (b : Bs) (A' : Option Addr) (n' c' : Nat) (l : List Wr) (C : Option Addr) (nc cc : Nat) (ch : Bs) (w : World) (h : Sl w 1 A n (bys b)) (hl : WSl w A' n' l) (hC : Sl w 1 C nc (bys ch)) (hb : b.length ≤ 1048576) (hn : n' ≤ 1099511627776) (hd : ∀ x ∈ l, x.data.length ≤ 1048576) :
    Calls Tryz.prog 72 #[.slice A n c, .slice A' n' c', .slice C nc cc] w fun e w' => Fr (fun _ => False) w w' ∧ ∃ B k, e = .returned (.slice B (survW b l ch).length k) ∧ Row w' w.heap.size 5 1 B (survW b l ch).length k (bys (survW b l ch)) := by
  refine (F72.of A n c A' n' c' C nc cc w (Q := fun v w' => Fr (fun _ => False) w w' ∧ ∃ B k, v = .slice B (survW b l ch).length k ∧ Row w' w.heap.size 5 1 B (survW b l ch).length k (bys (survW b l ch))) ?_).mono (fun e w' ⟨v, he, hf, B, k, hv, h⟩ => ⟨hf, B, k, by rw [he, hv], h⟩)
  have hbl := by_n h
  have hwl := wsl_n hl
  refine rec_new (fun pb w0 f0 hpb rp => ?_)
  have h := f0.sl h (fun _ _ _ h => h)
  have hl := hl.fr0 f0
  have hC := f0.sl hC (fun _ _ _ h => h)
  have hs0 := f0.size
  have key : Calls Tryz.prog 93 #[.slice A n c, .slice A' n' c', .func (.func 94) #[] #[.pointer (some ⟨pb, 0, none⟩)]] w0 fun e w' => Fr (fun _ => False) w0 w' ∧ ∃ B k, e = .returned (.slice B (survW b l ch).length k) ∧ Row w' w0.heap.size 5 1 B (survW b l ch).length k (bys (survW b l ch)) := by
    refine (F93b.of A n c A' n' c' (pb, 0) w0 (Q := fun v w' => Fr (fun _ => False) w0 w' ∧ ∃ B k, v = .slice B (survW b l ch).length k ∧ Row w' w0.heap.size 5 1 B (survW b l ch).length k (bys (survW b l ch))) ?_).mono (fun e w' ⟨v, he, hf, B, k, hv, h⟩ => ⟨hf, B, k, by rw [he, hv], h⟩)
    refine (clone_by A n c b w0 h (by omega)).mono ?_
    rintro e w1 ⟨f1, B, k, rfl, h1⟩
    have e0 : survW b (l.take 0) ch = b := by rw [List.take_zero]; cases ch <;> rfl
    refine ⟨_, _, _, rfl, jnC_mk (loop_rule (fun s v => Fr (fun _ => False) w0 v ∧ ∃ (i : Nat) (B : Option Addr) (k : Nat), i ≤ n' ∧ s = ((pb, 0), (B, (survW b (l.take i) ch).length, k), (A', n', c'), ((n' : Nat) : Int), (i : Int), ()) ∧ Row v w0.heap.size 5 1 B (survW b (l.take i) ch).length k (bys (survW b (l.take i) ch)))
      (fun s _ => (n' - s.2.2.2.2.1).toNat) ?_ _ _ ⟨f1, 0, B, k, by omega, by rw [e0, hbl]; rfl, by rw [e0, hbl]; exact h1⟩)⟩
    rintro s v C2 ⟨hf, i, B, k, hi, rfl, hr⟩ hC2 _
    have hal := surv_le (l := l.take i) (ch := ch) hb
    refine vIf_mk (fun hlt => ?_) (fun hge => ?_)
    · have hlt2 : (i : Int) < (n' : Int) := of_decide_eq_true hlt
      have gi : l[i]? = some (l[i]'(by omega)) := List.getElem?_eq_getElem (by omega)
      generalize l[i]'(by omega) = x at gi
      have hxd := hd x (List.mem_of_getElem? gi)
      have hst := survW_step gi b ch
      have ms : ((n' : Int) - IntKind.wrap .i64 ((i : Int) + 1)).toNat < ((n' : Int) - (i : Int)).toNat := by rw [ei i (by omega)]; omega
      obtain ⟨vs, hs, _, hE⟩ := hl.fr0 hf
      refine el_all hs hE (by omega) gi (by omega) (fun cs hc hx => var_new rfl hc (wr_one hx).2 (fun b9 w11 g1 hb9 r9 => ⟨cs, hc, rec_all r9, ?_⟩))
      have hf1 := hf.trans1 g1
      refine (surv1_calls i cs x pb C nc cc ch w11 (hx.fr0 g1) hxd (rp.fr hf1 (fun h => h)) (hf1.sl hC (fun _ _ _ h => h)) (by omega)).mono ?_
      rintro e w13 ⟨g2, cs2, rfl, hc2, ho2, hw2⟩
      have g12 := g1.trans1 g2
      refine ⟨_, _, rfl, var_new rfl hc2 ho2 (fun b17 w19 g3 hb17 r17 => ?_)⟩
      have g123 := g12.trans1 g3
      have hf3 := hf.trans1 g123
      refine vIf_mk (fun ht => ?_) (fun ht => ?_)
      · have ht : livesS x ch i = true := ht
        obtain ⟨c0, hc0⟩ : ∃ c0, ch[i]? = some c0 := by
          cases hci : ch[i]? with
          | none => unfold livesS at ht; rw [hci] at ht; cases ht
          | some c0 => exact ⟨c0, rfl⟩
        have ht2 : c0 ≠ 0 ∧ rightW x = true := by
          unfold livesS at ht
          rw [hc0] at ht
          simpa using ht
        have en : survW b (l.take (i + 1)) ch = applyW (survW b (l.take i) ch) (partW x c0) := by
          rw [hst, hc0]
          show survS _ x c0 = _
          unfold survS
          rw [if_neg (fun h => h.elim ht2.1 (fun h => by rw [ht2.2] at h; cases h))]
        have hpw := (hw2 c0 hc0 ht).fr0 g3
        refine ⟨cs2, hc2, rec_all r17, (apply_calls B _ k (survW b (l.take i) ch) cs2 (partW x c0) w19 (g123.row hr (fun _ _ h => h)).sl hr.le hpw (by omega) (by have := part_len x c0 hxd; omega)).mono ?_⟩
        rintro e w21 ⟨g4, B2, k2, rfl, h2⟩
        have hsz := hf3.size
        exact ⟨_, _, _, rfl, jnC_mk (hC2 _ _ ⟨hf3.trans1 g4, i + 1, B2, k2, by omega, by rw [ei i (by omega), en], by rw [en]; exact row_lowB hsz h2⟩ ms)⟩
      · have ht : livesS x ch i = false := ht
        have en : survW b (l.take (i + 1)) ch = survW b (l.take i) ch := by
          rw [hst]
          cases hci : ch[i]? with
          | none => rfl
          | some c0 =>
            show survS _ x c0 = _
            unfold livesS at ht
            rw [hci] at ht
            have ht : (decide (c0 ≠ 0) && rightW x) = false := ht
            unfold survS
            rw [if_pos]
            by_cases hc00 : c0 = 0
            · exact .inl hc00
            · right
              rw [decide_eq_true hc00, Bool.true_and] at ht
              exact ht
        exact jnC_mk (hC2 _ _ ⟨hf3, i + 1, B, k, by omega, by rw [ei i (by omega), en], by rw [en]; exact g123.row hr (fun _ _ h => h)⟩ ms)
    · have hge2 : ¬ (i : Int) < (n' : Int) := of_decide_eq_false hge
      have e : l.take i = l := List.take_of_length_le (by omega)
      rw [e] at hr ⊢
      exact ⟨hf, B, k, rfl, hr⟩
  refine key.mono ?_
  rintro e w1 ⟨f1, B, k, rfl, h1⟩
  exact ⟨_, _, _, rfl, f0.trans1 f1, B, k, rfl, row_lowB hs0 h1⟩
end Go.Proofs.YtfdhaeglhkmmpaaGreat
/- chapter 10: Crash -/
namespace Go.Proofs.YtfdhaeglhkmmpaaGreat
open Go.GV Go.RowKit Go.Lib
set_option linter.unusedVariables false
set_option linter.unusedSimpArgs false
theorem slDrop {w : World} {A : Option Addr} {n c k : Nat} {l : List Value} (h : Sl w 1 A n l) (hk : k ≤ n) (hc : n ≤ c) : Sl w 1 (slA A c k 1) (n - k) (l.drop k) := by
  have hl := h.1
  refine ⟨by rw [List.length_drop]; omega, fun h0 => ?_⟩
  obtain ⟨b, o, hA, hcl⟩ := h.2 (by omega)
  subst hA
  refine ⟨b, o + k, ?_, fun j v hj => ?_⟩
  · unfold slA
    rw [if_neg (by omega), Option.map_some, add_none, Nat.mul_one]
  · rw [List.getElem?_drop] at hj
    rw [Nat.add_assoc]
    exact hcl _ v hj
theorem survW_take : ∀ (l : List Wr) (b ch : Bs), survW b l (ch.take l.length) = survW b l ch
  | [], b, [] => rfl
  | [], b, _ :: _ => rfl
  | x :: l, b, [] => rfl
  | x :: l, b, c :: r => survW_take l (survS b x c) r
set_option maxHeartbeats 1000000 in
theorem crashI_calls (cs : List Value) (x : Ino) (C : Option Addr) (nc cc : Nat) (ch : Bs) (w : World) (h : InoAt w cs x) (hC : Sl w 1 C nc (bys ch)) (hcc : nc ≤ cc) (hb : InoB x) (hp : x.p.length ≤ 1099511627775) (hn : nc ≤ 1099511627775) :
    Calls Tryz.prog 32 #[ofL cs, .slice C nc cc] w fun e w' => Fr (fun _ => False) w w' ∧ ∃ cs' D nd dd, e = .returned (.tuple #[ofL cs', .slice D nd dd]) ∧ InoAt w' cs' (crashI x ch).1 ∧ Sl w' 1 D nd (bys (crashI x ch).2) ∧ nd ≤ dd := by
  refine (F32.of cs C nc cc w (Q := fun v w' => Fr (fun _ => False) w w' ∧ ∃ cs' D nd dd, v = .tuple #[ofL cs', .slice D nd dd] ∧ InoAt w' cs' (crashI x ch).1 ∧ Sl w' 1 D nd (bys (crashI x ch).2) ∧ nd ≤ dd) ?_).mono (fun e w' ⟨v, he, hf, cs', D, nd, dd, hv, h⟩ => ⟨hf, cs', D, nd, dd, by rw [he, hv], h⟩)
  have hcl := by_n hC
  obtain ⟨A, n, c, A', n', c', rfl, h1, h2, h3, h4⟩ := h
  have hn' := wsl_n h3
  refine rec_new (fun b1 w2 f1 hb1 r1 => rec_new (fun b3 w4 f3 hb3 r3 => ?_))
  have hl3 := r3.lt
  have r1 := r1.fr f3 (fun h => h)
  have fd : Fr (fun _ => False) w4 w4.drew := Fr.drew _ _
  have r1d := r1.fr fd (fun h => h)
  have r3 := r3.fr fd (fun h => h)
  have f0 := (f1.trans1 f3).trans1 fd
  have hs1 := f1.size
  have hsd := fd.size
  obtain ⟨t, ht, htn⟩ : ∃ t : Nat, (if ((n' : Nat) : Int) < ((nc : Nat) : Int) then ((n' : Nat) : Int) else ((nc : Nat) : Int)) = (t : Int) ∧ t = min n' nc := by
    refine ⟨min n' nc, ?_, rfl⟩
    split <;> omega
  refine ⟨_, _, _, r1.cell (o := 0 + 1) rfl, _, _, _, r1d.cell (o := 0) rfl, _, _, _, r1d.cell (o := 0 + 1) rfl, ?_⟩
  rw [ht]
  generalize w4.drew = w5 at fd r1d r3 f0 hsd ⊢
  refine gd_mk (decide_eq_true (by omega)) (gd_mk (decide_eq_true (by omega)) (gd_mk (decide_eq_true (by omega)) (gd_mk (decide_eq_true (by omega)) ?_)))
  rw [Int.toNat_natCast]
  have hC5 := f0.sl hC (fun _ _ _ h => h)
  have hCt := sl_cut0 (c := cc) hC5 (show t ≤ nc by omega)
  have et : ch.take t = ch.take x.p.length := by
    rw [hn', htn]
    by_cases h : n' ≤ nc
    · rw [Nat.min_eq_left h]
    · rw [Nat.min_eq_right (by omega), List.take_of_length_le (by omega), List.take_of_length_le (by omega)]
  have ed : ch.drop t = ch.drop x.p.length := by
    rw [hn', htn]
    by_cases h : n' ≤ nc
    · rw [Nat.min_eq_left h]
    · rw [Nat.min_eq_right (by omega), List.drop_of_length_le (by omega), List.drop_of_length_le (by omega)]
  have hCt : Sl w5 1 (slA C cc 0 1) t (bys (ch.take t)) := by
    have e2 : bys (ch.take t) = (bys ch).take (t * 1) := by simp [bys, List.map_take]
    rw [e2]; exact hCt
  refine (surv_calls A n c x.b A' n' c' x.p (slA C cc 0 1) t cc (ch.take t) w5 (f0.sl h1 (fun _ _ _ h => h)) (h3.fr0 f0) hCt hb.b (by omega) hb.d).mono ?_
  rintro e w14 ⟨f6, B, k, rfl, h6⟩
  rw [et, survW_take] at h6 ⊢
  have hCd := slDrop (c := cc) (f6.sl hC5 (fun _ _ _ h => h)) (show t ≤ nc by omega) hcc
  have hCd : Sl w14 1 (slA C cc t 1) (nc - t) (bys (ch.drop t)) := by
    have e2 : bys (ch.drop t) = (bys ch).drop t := by simp [bys, List.map_drop]
    rw [e2]; exact hCd
  refine ⟨_, _, _, rfl, (clone_by _ _ (cc - t) (ch.drop t) w14 hCd (by omega)).mono ?_⟩
  rintro e w19 ⟨f7, D, dd, rfl, h7⟩
  have r3 := (r3.fr f6 (fun h => h)).fr f7 (fun h => h)
  refine ⟨_, _, _, rfl, gd_mk rfl (r3.st_mk (o := 0) (by show 0 + 2 ≤ 2; omega) (fun v hv => ?_) (fun r3 f8 => ?_))⟩
  · simp only [List.cons_append, List.nil_append, List.mem_cons, List.not_mem_nil, or_false] at hv
    rcases hv with rfl | rfl <;> rfl
  rw [splice_full (by rfl)] at r3
  have hs6 := f6.size
  have far : ∀ j, w5.heap.size ≤ j → ¬ j = b3 := fun j hj h => by omega
  refine ⟨[.slice B (survW x.b x.p ch).length k, .slice none 0 0], rfl, rec_all r3, ((f0.trans1 f6).trans1 f7).trans f8 (fun _ _ h => h) (fun j hj h => by have h : j = b3 := h; omega), _, D, nc - t, dd, rfl, ?_, ?_, h7.le⟩
  · have h6' := f8.row (f7.row h6 (fun _ _ h => h)) (fun j hj h => far j ((h6.blt hj).1) h)
    exact ⟨_, _, _, _, _, _, rfl, h6'.sl, h6'.le, ⟨[], Sl.nil _ _ _, rfl, Ech.nil⟩, Nat.le_refl _⟩
  · have h7' := f8.row h7 (fun j hj h => far j (by have := (h7.blt hj).1; omega) h)
    show Sl _ 1 D (nc - t) (bys (ch.drop x.p.length))
    rw [← ed]; exact h7'.sl
end Go.Proofs.YtfdhaeglhkmmpaaGreat
/- chapter 09, the document's: Right, Peak -/
namespace Go.Proofs.YtfdhaeglhkmmpaaGreat
open Go.GV Go.RowKit Go.Lib
set_option linter.unusedVariables false
set_option linter.unusedSimpArgs false
theorem rright_calls (cs : List Value) (x : Wr) (w : World) (h : WrP w cs x) (hd : x.data.length ≤ 1099511627776) :
    Calls Tryz.prog 135 #[ofL cs] w fun e w' => e = .returned (.bool (rightW x)) ∧ Fr (fun _ => False) w w' := by
  refine (F135.of cs w (Q := fun v w' => v = .bool (rightW x) ∧ Fr (fun _ => False) w w') ?_).mono (fun e w' ⟨v, he, hv, h⟩ => ⟨by rw [he, hv], h⟩)
  obtain ⟨B, m, k, rfl, h1, h2⟩ := h
  have hm := by_n h1
  refine nw_mk ?_
  have q := RecAt.new w ([.bool x.cut, .int .i64 x.off, .slice B m k] : List Value) 124
  have f1 : Fr (fun _ => False) w (w.alloc (.cells ([.bool x.cut, .int .i64 x.off, .slice B m k] : List Value).toArray 124)) := Fr.alloc _ _ _
  have ew : IntKind.wrap .i64 (1048576 - ((m : Nat) : Int)) = 1048576 - (m : Int) := i64_id (by omega) (by omega)
  refine ⟨_, q.cell (o := 0 + 1) rfl, vIf_mk (fun h => ⟨_, q.cell (o := 0 + 1) rfl, _, _, _, q.cell (o := 0 + 2) rfl, ?_, f1⟩) (fun h => ⟨?_, f1⟩)⟩
  · unfold rightW
    rw [h, Bool.true_and, ew, hm]
  · unfold rightW
    rw [h, Bool.false_and]
set_option maxHeartbeats 1000000 in
theorem rpeak_calls (m : Int) (A : Option Addr) (n c : Nat) (l : List Wr) (w : World) (hl : WSl w A n l) (hn : n ≤ 1099511627775) (hd : ∀ x ∈ l, x.data.length ≤ 1048576) :
    Calls Tryz.prog 108 #[.int .i64 m, .slice A n c] w fun e w' => e = .returned (.int .i64 (peakW m l)) ∧ Fr (fun _ => False) w w' := by
  refine (F108.of m A n c w (Q := fun v w' => v = .int .i64 (peakW m l) ∧ Fr (fun _ => False) w w') ?_).mono (fun e w' ⟨v, he, hv, h⟩ => ⟨by rw [he, hv], h⟩)
  have hwl : l.length = n := wsl_n hl
  refine jnC_mk (loop_rule (fun s v => Fr (fun _ => False) w v ∧ ∃ (i : Nat), i ≤ n ∧ s = (peakW m (l.take i), (A, n, c), (i : Int), ()))
    (fun s _ => (n - s.2.2.1).toNat) ?_ _ _ ⟨Fr.refl _ _, 0, by omega, rfl⟩)
  rintro s v C ⟨hf, i, hi, rfl⟩ hC _
  have ms : ((n : Int) - IntKind.wrap .i64 ((i : Int) + 1)).toNat < ((n : Int) - (i : Int)).toNat ∨ ¬ i < n := by
    by_cases h : i < n
    · left; rw [ei i (by omega)]; omega
    · exact .inr h
  refine vIf_mk (fun hlt => ?_) (fun hge => ?_)
  · have hlt2 : (i : Int) < (n : Int) := of_decide_eq_true hlt
    have gi : l[i]? = some (l[i]'(by omega)) := List.getElem?_eq_getElem (by omega)
    generalize l[i]'(by omega) = x at gi
    have hxd := hd x (List.mem_of_getElem? gi)
    obtain ⟨vs, hs, _, hE⟩ := hl.fr0 hf
    refine el_all hs hE (by omega) gi (by omega) (fun cs hc hx => var_new rfl hc (wr_one hx).2 (fun b4 w6 g1 hb4 r4 => ⟨cs, hc, rec_all r4, ?_⟩))
    have hf1 := hf.trans1 g1
    refine (rright_calls cs x w6 (hx.fr0 g1) (by omega)).mono ?_
    rintro e w8 ⟨rfl, g2⟩
    have r4 := r4.fr g2 (fun h => h)
    have hf2 := hf1.trans1 g2
    obtain ⟨B, k, k', ecs, hB, hkk⟩ := hx
    subst ecs
    have hk := by_n hB
    have k6 : ∀ t : Bool, (t = true → peakW m (l.take (i + 1)) = IntKind.wrap .i64 (x.off + ((k : Nat) : Int))) → (t = false → peakW m (l.take (i + 1)) = peakW m (l.take i)) → jnC (F108.k6 (fun v w' => v = .int .i64 (peakW m l) ∧ Fr (fun _ => False) w w') C) (peakW m (l.take i), (A, n, c), (i : Int), (b4, 0), t, ()) w8 := by
      intro t ht1 ht2
      refine jnC_mk (fun _ => vIf_mk (fun h1 => ⟨_, r4.cell (o := 0 + 1) rfl, _, _, _, r4.cell (o := 0 + 2) rfl, jnC_mk (hC _ _ ⟨hf2, i + 1, by omega, ?_⟩ (ms.resolve_right (by omega)))⟩) (fun h1 => jnC_mk (hC _ _ ⟨hf2, i + 1, by omega, ?_⟩ (ms.resolve_right (by omega)))))
      · rw [ei i (by omega), ht1 h1]
      · rw [ei i (by omega), ht2 h1]
    have stay : ¬ (rightW x = true ∧ x.cut = false ∧ x.data ≠ []) → peakW m (l.take (i + 1)) = peakW m (l.take i) := fun hp => by rw [takeW gi, peakW_snoc, endW_neg hp]
    refine ⟨_, rfl, vIf_mk (fun hr => ⟨_, r4.cell (o := 0) rfl, vIf_mk (fun hcut => ⟨_, _, _, r4.cell (o := 0 + 2) rfl, vIf_mk (fun h0 => ⟨_, r4.cell (o := 0 + 1) rfl, _, _, _, r4.cell (o := 0 + 2) rfl, k6 _ (fun ht => ?_) (fun ht => ?_)⟩) (fun h0 => k6 _ (fun ht => by cases ht) (fun _ => stay (fun hp => ?_)))⟩) (fun hcut => k6 _ (fun ht => by cases ht) (fun _ => stay (fun hp => ?_)))⟩) (fun hr => k6 _ (fun ht => by cases ht) (fun _ => stay (fun hp => ?_)))⟩
    · have hr : rightW x = true := hr
      have hcut : x.cut = false := by simpa using hcut
      have h0 := of_decide_eq_true h0
      have ht := of_decide_eq_true ht
      have hro := right_iff.1 hr
      have hne : x.data ≠ [] := fun e => by rw [e] at hk; simp at hk; omega
      have ew : IntKind.wrap .i64 (x.off + ((k : Nat) : Int)) = x.off + (x.data.length : Int) := by rw [i64_id (by omega) (by omega)]; omega
      rw [ew] at ht ⊢
      rw [takeW gi, peakW_snoc, endW_pos ⟨hr, hcut, hne⟩, if_pos (by omega)]
    · have hr : rightW x = true := hr
      have hcut : x.cut = false := by simpa using hcut
      have h0 := of_decide_eq_true h0
      have ht := of_decide_eq_false ht
      have hro := right_iff.1 hr
      have hne : x.data ≠ [] := fun e => by rw [e] at hk; simp at hk; omega
      have ew : IntKind.wrap .i64 (x.off + ((k : Nat) : Int)) = x.off + (x.data.length : Int) := by rw [i64_id (by omega) (by omega)]; omega
      rw [ew] at ht
      rw [takeW gi, peakW_snoc, endW_pos ⟨hr, hcut, hne⟩, if_neg (by omega)]
    · have h0 := of_decide_eq_false h0
      have : x.data.length ≠ 0 := fun e => hp.2.2 (List.length_eq_zero_iff.1 e)
      omega
    · have hcut : x.cut = true := by simpa using hcut
      rw [hcut] at hp; cases hp.2.1
    · have hr : rightW x = false := hr
      rw [hr] at hp; cases hp.1
  · have hge2 : ¬ (i : Int) < (n : Int) := of_decide_eq_false hge
    have e : l.take i = l := List.take_of_length_le (by omega)
    rw [e]
    exact ⟨rfl, hf⟩
end Go.Proofs.YtfdhaeglhkmmpaaGreat
/- chapter 09, the document's: Apply -/
namespace Go.Proofs.YtfdhaeglhkmmpaaGreat
open Go.GV Go.RowKit Go.Lib
set_option linter.unusedVariables false
set_option linter.unusedSimpArgs false
/-- bytes over bytes, if there are any -/
def ovr (b : Bs) (o : Nat) (d : Bs) : Bs := if d = [] then b else over b o d
/-- a change, of which so many bytes are written -/
def applyM (b : Bs) (x : Wr) (m : Nat) : Bs := if rightW x = false then b else if x.cut = true then b.take x.off.toNat else ovr b x.off.toNat (x.data.take m)
theorem applyM_all (b : Bs) (x : Wr) : applyM b x x.data.length = applyW b x := by
  unfold applyM applyW ovr
  rw [List.take_length]
  cases hr : rightW x with
  | false => rw [if_pos rfl, if_pos (.inl rfl)]
  | true =>
    rw [if_neg (by decide)]
    cases hc : x.cut with
    | true => rw [if_pos rfl, if_neg (fun h => h.elim (fun h => by cases h) (fun h => by cases h.1)), if_pos rfl]
    | false =>
      rw [if_neg (by decide)]
      by_cases hd : x.data = []
      · rw [if_pos hd, if_pos (.inr ⟨rfl, hd⟩)]
      · rw [if_neg hd, if_neg (fun h => h.elim (fun h => by cases h) (fun h => hd h.2)), if_neg (by decide)]
theorem applyM_part (b : Bs) (x : Wr) (c : UInt8) (hc : c ≠ 0) : applyM b x (if c.toNat = 255 then x.data.length else c.toNat) = survS b x c := by
  have h256 : c.toNat < 256 := c.toNat_lt
  have hpos : c.toNat ≠ 0 := fun e => hc (UInt8.toNat_inj.1 (by rw [e]; rfl))
  obtain ⟨m, hm⟩ : ∃ m : Nat, m = (if c.toNat = 255 then x.data.length else c.toNat) := ⟨_, rfl⟩
  rw [← hm]
  unfold survS
  cases hr : rightW x with
  | false =>
    rw [if_pos (.inr rfl)]
    unfold applyM
    rw [if_pos hr]
  | true =>
    rw [if_neg (fun h => h.elim hc (fun h => by cases h))]
    unfold partW
    by_cases h : c.toNat < 255 ∧ c.toNat < x.data.length
    · rw [if_neg (by omega)] at hm
      rw [if_pos h, ← applyM_all, hm]
      have hl : (x.data.take c.toNat).length = c.toNat := by rw [List.length_take]; omega
      have hro := right_iff.1 hr
      have hr2 : rightW { x with data := x.data.take c.toNat } = true := right_iff.2 ⟨hro.1, by show x.off ≤ 1048576 - (((x.data.take c.toNat).length : Nat) : Int); omega⟩
      unfold applyM
      rw [hr2, hr]
      show _ = if true = false then b else if x.cut = true then b.take x.off.toNat else ovr b x.off.toNat ((x.data.take c.toNat).take (x.data.take c.toNat).length)
      rw [List.take_length]
    · rw [if_neg h, ← applyM_all]
      unfold applyM
      have e : x.data.take m = x.data.take x.data.length := by
        by_cases h2 : c.toNat = 255
        · rw [if_pos h2] at hm; rw [hm]
        · rw [if_neg h2] at hm; rw [hm, List.take_of_length_le (by omega), List.take_length]
      rw [e]
theorem ovr_len (b : Bs) (o : Nat) (d : Bs) : (ovr b o d).length = if d = [] then b.length else max b.length (o + d.length) := by
  unfold ovr
  split
  · rfl
  · exact over_len _ _ _
/-- one more byte is written -/
theorem ovr_step (b : Bs) (o i k : Nat) (d : Bs) (x : UInt8) (hi : d[i]? = some x) (h1 : k = 0 ∨ (ovr b o (d.take i)).length + k = o + i + 1) (h2 : o + i < (ovr b o (d.take i)).length + k) :
    (ovr b o (d.take i) ++ List.replicate k 0).set (o + i) x = ovr b o (d.take (i + 1)) := by
  have hil := (List.getElem?_eq_some_iff.1 hi).1
  have hne : d.take (i + 1) ≠ [] := fun e => by have := congrArg List.length e; rw [List.length_take, List.length_nil] at this; omega
  have hl1 : (d.take (i + 1)).length = i + 1 := by rw [List.length_take]; omega
  have hli : (d.take i).length = i := by rw [List.length_take]; omega
  have e1 : ovr b o (d.take (i + 1)) = over b o (d.take (i + 1)) := by unfold ovr; rw [if_neg hne]
  rw [e1]
  have hL : (ovr b o (d.take i)).length = if i = 0 then b.length else max b.length (o + i) := by
    rw [ovr_len, hli]
    by_cases h0 : i = 0
    · subst h0; simp
    · rw [if_neg (fun e => h0 (by have := congrArg List.length e; rw [hli] at this; simpa using this)), if_neg h0]
  have hget : ∀ j, (ovr b o (d.take i))[j]? = if i = 0 then b[j]? else if j < o then (if j < b.length then b[j]? else some 0) else if j < o + i then d[j - o]? else b[j]? := by
    intro j
    unfold ovr
    by_cases h0 : i = 0
    · subst h0; simp
    · rw [if_neg (fun e => h0 (by have := congrArg List.length e; rw [hli] at this; simpa using this)), if_neg h0, over_get, hli]
      by_cases hj : j < o
      · rw [if_pos hj, if_pos hj]
      · rw [if_neg hj, if_neg hj]
        by_cases hj2 : j < o + i
        · rw [if_pos hj2, if_pos hj2, List.getElem?_take, if_pos (by omega)]
        · rw [if_neg hj2, if_neg hj2]
  apply List.ext_getElem?
  intro j
  rw [List.getElem?_set, over_get, hl1]
  have hlen : (ovr b o (d.take i) ++ List.replicate k 0).length = (ovr b o (d.take i)).length + k := by simp
  by_cases hj : o + i = j
  · subst hj
    rw [if_pos rfl, if_pos (by rw [hlen]; exact h2), if_neg (by omega), if_pos (by omega), Nat.add_sub_cancel_left, List.getElem?_take, if_pos (by omega), hi]
  · rw [if_neg hj]
    by_cases hjl : j < (ovr b o (d.take i)).length
    · rw [List.getElem?_append_left hjl, hget]
      by_cases h0 : i = 0
      · rw [if_pos h0]
        rw [if_pos h0] at hL
        by_cases hjo : j < o
        · rw [if_pos hjo, if_pos (by omega)]
        · rw [if_neg hjo, if_neg (by omega)]
      · rw [if_neg h0]
        by_cases hjo : j < o
        · rw [if_pos hjo, if_pos hjo]
        · rw [if_neg hjo, if_neg hjo]
          by_cases hj2 : j < o + i
          · rw [if_pos hj2, if_pos (by omega), List.getElem?_take, if_pos (by omega)]
          · rw [if_neg hj2, if_neg (by omega)]
    · rw [List.getElem?_append_right (by omega), List.getElem?_replicate]
      by_cases hj3 : j - (ovr b o (d.take i)).length < k
      · rw [if_pos hj3]
        have hjo : j < o := by
          split at hL <;> omega
        have : ¬ j < b.length := by split at hL <;> omega
        rw [if_pos hjo, if_neg this]
      · rw [if_neg hj3]
        have : b.length ≤ j := by split at hL <;> omega
        have h4 : ¬ j < o := by omega
        rw [if_neg h4, if_neg (by omega), List.getElem?_eq_none this]
theorem bys_app (a b : Bs) : bys (a ++ b) = bys a ++ bys b := by simp [bys]
/-- one more byte -/
theorem push_b {w : World} {B : Nat} {A : Option Addr} {n c : Nat} {out : Bs} {x : UInt8} {K : Option Addr → Nat → Nat → World → Prop} (hr : Row w B 5 1 A n c (bys out)) (hB : B ≤ w.heap.size) (hn : n ≤ 1099511627776)
    (hK : ∀ A' c' w', Row w' B 5 1 A' (n + 1) c' (bys (out ++ [x])) → Fr (fun k => blkOf A = some k) w w' → K A' (n + 1) c' w') : nw w ([Value.int .u8 (x.toNat : Int)] ++ []) 5 fun b w' => app w' 1 1 [Value.int .u8 0] 5 A n c (.slice (some ⟨b, 0, none⟩) 1 1) K := by
  refine nw_mk ?_
  rw [List.append_nil]
  have f1 : Fr (fun _ => False) w (w.alloc (.cells [Value.int .u8 (x.toNat : Int)].toArray 5)) := Fr.alloc _ _ _
  have r1 : Row (w.alloc (.cells [Value.int .u8 (x.toNat : Int)].toArray 5)) 0 5 1 (some ⟨w.heap.size, 0, none⟩) 1 1 (bys [x]) := Row.new (Nat.zero_le _) rfl
  have hs : (w.alloc (.cells [Value.int .u8 (x.toNat : Int)].toArray 5)).heap.size = w.heap.size + 1 := alloc_size _ _
  generalize w.alloc (.cells [Value.int .u8 (x.toNat : Int)].toArray 5) = w1 at f1 r1 hs ⊢
  refine app_row (f1.row hr (fun _ _ h => h)) r1.sl.src (bvs_one [x]) rfl (by omega) (by omega) (by omega) (fun A' c' w' hr' f' => hK A' c' w' (by rw [bys_app]; exact hr') ?_)
  exact f1.trans f' (fun _ _ h => h.elim) (fun _ _ h => h)
/-- bytes are copied: append(nil, b...) -/
theorem copy_b {w : World} {A : Option Addr} {n c : Nat} {b : Bs} {K : Option Addr → Nat → Nat → World → Prop} (h : Sl w 1 A n (bys b)) (hn : n ≤ 1099511627776)
    (hK : ∀ A' c' w', Row w' w.heap.size 5 1 A' n c' (bys b) → Fr (fun _ => False) w w' → K A' n c' w') : app w 1 1 [Value.int .u8 0] 5 none 0 0 (.slice A n c) K := by
  have hK2 : ∀ A' c' w', Row w' w.heap.size 5 1 A' (0 + n) c' ([] ++ bys b) → Fr (fun k => blkOf none = some k) w w' → K A' (0 + n) c' w' := by
    intro A' c' w' hr f
    rw [Nat.zero_add] at hr ⊢
    exact hK A' c' w' hr (f.mono (fun _ _ h => by simp [blkOf] at h))
  exact app_row (Row.nil w w.heap.size 5 1) h.src (bvs_one b) rfl (by omega) (by omega) (Nat.le_refl _) hK2
set_option maxHeartbeats 2000000 in
theorem rapply_calls (A : Option Addr) (n c : Nat) (b : Bs) (cs : List Value) (x : Wr) (most : Nat) (w : World) (h : Sl w 1 A n (bys b)) (hx : WrP w cs x) (hn : n ≤ 1048576) (hd : x.data.length ≤ 1048576) :
    Calls Tryz.prog 111 #[.slice A n c, ofL cs, .int .i64 (most : Int)] w fun e w' => Fr (fun _ => False) w w' ∧ ∃ A' c', e = .returned (.slice A' (applyM b x most).length c') ∧ Row w' w.heap.size 5 1 A' (applyM b x most).length c' (bys (applyM b x most)) := by
  refine (F111.of A n c cs most w (Q := fun v w' => Fr (fun _ => False) w w' ∧ ∃ A' c', v = .slice A' (applyM b x most).length c' ∧ Row w' w.heap.size 5 1 A' (applyM b x most).length c' (bys (applyM b x most))) ?_).mono (fun e w' ⟨v, he, hf, A', c', hv, h⟩ => ⟨hf, A', c', by rw [he, hv], h⟩)
  have hl := by_n h
  have hone := wr_one hx
  refine rec_new (fun b1 w2 f1 hb1 r1 => ⟨cs, hone.1, rec_all r1, (rright_calls cs x w2 (hx.fr0 f1) (by omega)).mono ?_⟩)
  rintro e w4 ⟨rfl, f4⟩
  have r1 := r1.fr f4 (fun h => h)
  have f := f1.trans1 f4
  have hx4 := hx.fr0 f
  have h4 := f.sl h (fun _ _ _ h => h)
  have hs4 := f.size
  obtain ⟨B, m, k, ecs, hB, hmk⟩ := hx4
  subst ecs
  have hm := by_n hB
  refine ⟨_, rfl, vIf_mk (fun hr => ?_) (fun hr => ⟨_, r1.cell (o := 0) rfl, vIf_mk (fun hcut => ?_) (fun hcut => ?_)⟩)⟩
  · have hr : rightW x = false := by simpa using hr
    have e : applyM b x most = b := by unfold applyM; rw [if_pos hr]
    rw [e]
    refine copy_b h4 (by omega) (fun A' c' w5 r5 f5 => ⟨f.trans1 f5, A', c', by rw [hl], by rw [hl]; exact row_lowB hs4 r5⟩)
  · have hr : rightW x = true := by simpa using hr
    have hro := right_iff.1 hr
    have hcut : x.cut = true := hcut
    have e : applyM b x most = b.take x.off.toNat := by unfold applyM; rw [if_neg (by rw [hr]; decide), if_pos hcut]
    rw [e]
    refine jnC_mk (loop_rule (fun s v => Fr (fun _ => False) w4 v ∧ ∃ (i : Nat) (R : Option Addr) (k' : Nat), i ≤ n ∧ (i : Int) ≤ x.off ∧ s = ((A, n, c), (b1, 0), (R, i, k'), (i : Int), ()) ∧ Row v w4.heap.size 5 1 R i k' (bys (b.take i)))
      (fun s _ => (n - s.2.2.2.1).toNat) ?_ _ _ ⟨Fr.refl _ _, 0, none, 0, by omega, by omega, rfl, Row.nil _ _ _ _⟩)
    rintro s v C ⟨hf, i, R, k', hi, hio, rfl, hr'⟩ hC _
    have fin : ((i : Int) < (n : Int) → ¬ (i : Int) < x.off) → Fr (fun _ => False) w v ∧ ∃ A' c', Value.slice R i k' = .slice A' (b.take x.off.toNat).length c' ∧ Row v w.heap.size 5 1 A' (b.take x.off.toNat).length c' (bys (b.take x.off.toNat)) := by
      intro hh
      have e2 : b.take x.off.toNat = b.take i := by
        by_cases h0 : (i : Int) < (n : Int)
        · have := hh h0
          congr 1; omega
        · rw [List.take_of_length_le (by omega), List.take_of_length_le (by omega)]
      have e3 : (b.take i).length = i := by rw [List.length_take]; omega
      rw [e2, e3]
      exact ⟨f.trans1 hf, R, k', rfl, row_lowB hs4 hr'⟩
    refine vIf_mk (fun hlt => ⟨_, (r1.fr hf (fun h => h)).cell (o := 0 + 1) rfl, vIf_mk (fun hlo => jnC_mk (fun _ => ?_)) (fun hlo => fin (fun _ => of_decide_eq_false hlo))⟩) (fun hlt => fin (fun h => absurd h (of_decide_eq_false hlt)))
    have hlt := of_decide_eq_true hlt
    have hlo := of_decide_eq_true hlo
    have hlt : (i : Int) < (n : Int) := hlt
    have hlo : (i : Int) < x.off := hlo
    have gi : b[i]? = some (b[i]'(by omega)) := List.getElem?_eq_getElem (by omega)
    generalize b[i]'(by omega) = y at gi
    dsimp only
    refine by_rd (hf.sl h4 (fun _ _ _ h => h)) gi (by omega) (push_b hr' hf.size (show i ≤ 1099511627776 by omega) (fun R' k2 w6 r6 f6 => jnC_mk (hC _ _ ⟨fr_own hf (fun j hj => (hr'.blt hj).1) (Nat.le_refl _) f6, i + 1, R', k2, by omega, by omega, ?_, ?_⟩ ?_)))
    · rw [ei i (by omega)]
    · rw [List.take_add_one, gi]; exact r6
    · show ((n : Int) - IntKind.wrap .i64 ((i : Int) + 1)).toNat < ((n : Int) - (i : Int)).toNat
      rw [ei i (by omega)]; omega
  · have hr : rightW x = true := by simpa using hr
    have hro := right_iff.1 hr
    have hcut : x.cut = false := hcut
    have e : applyM b x most = ovr b x.off.toNat (x.data.take most) := by unfold applyM; rw [if_neg (by rw [hr]; decide), if_neg (by rw [hcut]; decide)]
    rw [e]
    obtain ⟨o, ho⟩ : ∃ o : Nat, x.off = (o : Int) := ⟨x.off.toNat, by omega⟩
    have ho2 : x.off.toNat = o := by omega
    rw [ho2]
    refine copy_b h4 (by omega) (fun A5 c5 w5 r5 f5 => ?_)
    refine jnC_mk (loop_rule (fun s v => Fr (fun _ => False) w4 v ∧ ∃ (i : Nat) (R : Option Addr) (N k' : Nat), i ≤ m ∧ i ≤ most ∧ s = ((most : Int), (b1, 0), (R, N, k'), (i : Int), ()) ∧ Row v w4.heap.size 5 1 R N k' (bys (ovr b o (x.data.take i))))
      (fun s _ => (m - s.2.2.2.1).toNat) ?_ _ _ ⟨f5, 0, A5, n, c5, by omega, by omega, rfl, ?_⟩)
    · rintro s v C ⟨hf, i, R, N, k', hi, him, rfl, hr'⟩ hC _
      have fin : ((i : Int) < (m : Int) → ¬ (i : Int) < (most : Int)) → Fr (fun _ => False) w v ∧ ∃ A' c', Value.slice R N k' = .slice A' (ovr b o (x.data.take most)).length c' ∧ Row v w.heap.size 5 1 A' (ovr b o (x.data.take most)).length c' (bys (ovr b o (x.data.take most))) := by
        intro hh
        have e2 : x.data.take most = x.data.take i := by
          by_cases h0 : (i : Int) < (m : Int)
          · have := hh h0
            congr 1; omega
          · rw [List.take_of_length_le (by omega), List.take_of_length_le (by omega)]
        have e3 := by_n hr'.sl
        rw [e2, e3]
        exact ⟨f.trans1 hf, R, k', rfl, row_lowB hs4 hr'⟩
      have r1v := r1.fr hf (fun h => h)
      refine ⟨_, _, _, r1v.cell (o := 0 + 2) rfl, vIf_mk (fun hlt => vIf_mk (fun hlo => jnC_mk (fun _ => ?_)) (fun hlo => fin (fun _ => of_decide_eq_false hlo))) (fun hlt => fin (fun h => absurd h (of_decide_eq_false hlt)))⟩
      have hlt : (i : Int) < (m : Int) := of_decide_eq_true hlt
      have hlo : (i : Int) < (most : Int) := of_decide_eq_true hlo
      have gi : x.data[i]? = some (x.data[i]'(by omega)) := List.getElem?_eq_getElem (by omega)
      generalize x.data[i]'(by omega) = y at gi
      have hN0 := by_n hr'.sl
      have hL := ovr_len b o (x.data.take i)
      have hli : (x.data.take i).length = i := by rw [List.length_take]; omega
      have hLN : N ≤ 1048576 := by split at hL <;> omega
      refine jnC_mk (loop_rule (fun s u => Fr (fun _ => False) w4 u ∧ ∃ (j : Nat) (R : Option Addr) (k' : Nat), s = ((most : Int), (b1, 0), (R, N + j, k'), (i : Int), ()) ∧ (j = 0 ∨ N + j ≤ o + i + 1) ∧ Row u w4.heap.size 5 1 R (N + j) k' (bys (ovr b o (x.data.take i) ++ List.replicate j 0)))
        (fun s _ => (o + i + 1 - s.2.2.1.2.1 : Nat)) ?_ _ _ ⟨hf, 0, R, k', rfl, .inl rfl, by rw [List.replicate_zero, List.append_nil]; exact hr'⟩)
      rintro s u C2 ⟨hf2, j, R2, k2, rfl, hj, hr2⟩ hC2 _
      have r1u := r1.fr hf2 (fun h => h)
      have ew : IntKind.wrap .i64 (x.off + (i : Int)) = ((o + i : Nat) : Int) := by rw [i64_id (by omega) (by omega)]; omega
      refine ⟨_, r1u.cell (o := 0 + 1) rfl, ?_⟩
      dsimp only
      rw [ew]
      refine vIf_mk (fun hle => ?_) (fun hgt => ?_)
      · have hle := of_decide_eq_true hle
        refine push_b (x := 0) hr2 hf2.size (show N + j ≤ 1099511627776 by omega) (fun R' k3 w6 r6 f6 => jnC_mk (hC2 _ _ ⟨fr_own hf2 (fun j hj => (hr2.blt hj).1) (Nat.le_refl _) f6, j + 1, R', k3, rfl, .inr (by omega), ?_⟩ ?_))
        · rw [List.append_assoc, ← List.replicate_succ'] at r6
          exact r6
        · show o + i + 1 - (N + j + 1) < o + i + 1 - (N + j)
          omega
      · have hgt := of_decide_eq_false hgt
        have fdr : Fr (fun _ => False) u u.drew := Fr.drew _ _
        have hf3 := hf2.trans1 fdr
        have r1d := r1u.fr fdr (fun h => h)
        have hrd := fdr.row hr2 (fun _ _ h => h)
        have hBd := hf3.sl hB (fun _ _ _ h => h)
        generalize u.drew = u2 at fdr hf3 r1d hrd hBd ⊢
        refine ⟨_, r1d.cell (o := 0 + 1) rfl, _, _, _, r1d.cell (o := 0 + 2) rfl, ?_⟩
        dsimp only
        rw [ew]
        refine by_rd hBd gi (by omega) ?_
        have hput := row_putG (o' := o + i) (us := [bv y]) (K := fun w' => jnC C ((most : Int), (b1, 0), (R2, N + j, k2), IntKind.wrap .i64 ((i : Int) + 1), ()) w') hrd (by omega) (by show o + i + 1 ≤ (N + j) * 1; omega) (fun v hv => by simp at hv; subst hv; rfl) (fun w6 r6 f6 => jnC_mk (hC _ _ ⟨fr_own hf3 (fun j hj => (hrd.blt hj).1) (Nat.le_refl _) f6, i + 1, R2, N + j, k2, by omega, by omega, ?_, ?_⟩ ?_))
        · rw [dr_iff] at hput ⊢
          obtain ⟨b', o', hA, hst⟩ := hput
          refine ⟨b', o', hA, gd_mk (decide_eq_true (by omega)) (gd_mk (decide_eq_true (by omega)) ?_)⟩
          rw [Int.toNat_natCast, Nat.mul_one]
          exact hst
        · rw [ei i (by omega)]
        · have es : splice (bys (ovr b o (x.data.take i) ++ List.replicate j 0)) (o + i) [bv y] = bys ((ovr b o (x.data.take i) ++ List.replicate j 0).set (o + i) y) := by
            have hfit : o + i + [bv y].length ≤ (bys (ovr b o (x.data.take i) ++ List.replicate j 0)).length := by
              simp only [bys, List.length_map, List.length_append, List.length_replicate, List.length_singleton]; omega
            apply List.ext_getElem?
            intro q
            rw [splice_get hfit]
            simp only [bys, List.getElem?_map, List.getElem?_set, List.length_append, List.length_replicate, List.length_singleton]
            by_cases q1 : q < o + i
            · rw [if_pos q1, if_neg (by omega)]
            · rw [if_neg q1]
              by_cases q2 : q = o + i
              · subst q2
                rw [if_pos (by omega), if_pos rfl, if_pos (by omega)]; simp
              · rw [if_neg (by omega), if_neg (by omega)]
          rw [es, ovr_step b o i j x.data y gi (by omega) (by omega)] at r6
          exact r6
        · show ((m : Int) - IntKind.wrap .i64 ((i : Int) + 1)).toNat < ((m : Int) - (i : Int)).toNat
          rw [ei i (by omega)]; omega
    · have e0 : ovr b o (x.data.take 0) = b := by unfold ovr; rw [if_pos (by simp)]
      rw [e0]; exact r5
end Go.Proofs.YtfdhaeglhkmmpaaGreat
/- chapter 09, the document's: All, Survive -/
namespace Go.Proofs.YtfdhaeglhkmmpaaGreat
open Go.GV Go.RowKit Go.Lib
set_option linter.unusedVariables false
set_option linter.unusedSimpArgs false
/-- an element of a row of records: one of its slices is read -/
theorem wr_rdD {w : World} {A : Option Addr} {n : Nat} {l : List Wr} (h : WSl w A n l) {i : Nat} {x : Wr} (hi : l[i]? = some x) (hin : i < n) {K : Option Addr → Nat → Nat → Prop} (hK : ∀ B m c, Sl w 1 B m (bys x.data) → m ≤ c → K B m c) :
    dr A fun b o => gd (decide (0 ≤ (i : Int))) (gd (decide ((i : Int) < ((n : Nat) : Int))) (ldSl w b ((o + ((i : Int)).toNat * 3) + 2) K)) := by
  obtain ⟨vs, hs, _, hE⟩ := h
  obtain ⟨b, o, rfl, h1, h2, B, m, k, ecs, hB, hmk⟩ := ech_rd hs hE (by omega) hi hin
  refine dr_mk (gd_mk (decide_eq_true (by omega)) (gd_mk (decide_eq_true (by omega)) ⟨B, m, k, ?_, hK B m k hB hmk⟩))
  rw [Int.toNat_natCast]
  rw [ecs] at h1
  exact h1 2 _ rfl
theorem wr_rdA {w : World} {A : Option Addr} {n : Nat} {l : List Wr} (h : WSl w A n l) {i : Nat} {x : Wr} (hi : l[i]? = some x) (hin : i < n) {K : List Value → Prop} (hK : ∀ cs, WrP w cs x → K cs) :
    dr A fun b o => gd (decide (0 ≤ (i : Int))) (gd (decide ((i : Int) < ((n : Nat) : Int))) (ldA 3 w b (o + ((i : Int)).toNat * 3) K)) := by
  obtain ⟨vs, hs, _, hE⟩ := h
  exact el_all hs hE (by omega) hi hin (fun cs _ hx => hK cs hx)
set_option maxHeartbeats 1000000 in
theorem rall_calls (A : Option Addr) (n c : Nat) (b : Bs) (A' : Option Addr) (n' c' : Nat) (l : List Wr) (w : World) (h : Sl w 1 A n (bys b)) (hl : WSl w A' n' l) (hb : b.length ≤ 1048576) (hn : n' ≤ 1099511627775) (hd : ∀ x ∈ l, x.data.length ≤ 1048576) :
    Calls Tryz.prog 88 #[.slice A n c, .slice A' n' c'] w fun e w' => Fr (fun _ => False) w w' ∧ ∃ B k, e = .returned (.slice B (allW b l).length k) ∧ Row w' w.heap.size 5 1 B (allW b l).length k (bys (allW b l)) := by
  refine (F88.of A n c A' n' c' w (Q := fun v w' => Fr (fun _ => False) w w' ∧ ∃ B k, v = .slice B (allW b l).length k ∧ Row w' w.heap.size 5 1 B (allW b l).length k (bys (allW b l))) ?_).mono (fun e w' ⟨v, he, hf, B, k, hv, h⟩ => ⟨hf, B, k, by rw [he, hv], h⟩)
  have hbl := by_n h
  have hwl := wsl_n hl
  refine copy_b h (by omega) (fun B k w1 r1 f1 => ?_)
  refine jnC_mk (loop_rule (fun s v => Fr (fun _ => False) w v ∧ ∃ (i : Nat) (B : Option Addr) (k : Nat), i ≤ n' ∧ s = ((A', n', c'), (B, (allW b (l.take i)).length, k), (i : Int), ()) ∧ Row v w.heap.size 5 1 B (allW b (l.take i)).length k (bys (allW b (l.take i))))
      (fun s _ => (n' - s.2.2.1).toNat) ?_ _ _ ⟨f1, 0, B, k, by omega, by rw [List.take_zero, ← hbl]; rfl, by rw [List.take_zero, show (allW b []).length = n from hbl]; exact r1⟩)
  rintro s v C ⟨hf, i, B, k, hi, rfl, hr⟩ hC _
  have hal := all_le (l := l.take i) hb
  refine vIf_mk (fun hlt => ?_) (fun hge => ?_)
  · have hlt2 : (i : Int) < (n' : Int) := of_decide_eq_true hlt
    have gi : l[i]? = some (l[i]'(by omega)) := List.getElem?_eq_getElem (by omega)
    generalize l[i]'(by omega) = x at gi
    have hxd := hd x (List.mem_of_getElem? gi)
    have fdr : Fr (fun _ => False) v v.drew := Fr.drew _ _
    have hf1 := hf.trans1 fdr
    have hrd := fdr.row hr (fun _ _ h => h)
    dsimp only
    generalize v.drew = v1 at fdr hf1 hrd ⊢
    refine wr_rdA (hl.fr0 hf1) gi (by omega) (fun cs hx => wr_rdD (hl.fr0 hf1) gi (by omega) (fun D m k' hD hm => ?_))
    have hmx := by_n hD
    refine (rapply_calls B _ k (allW b (l.take i)) cs x m v1 hrd.sl hx (by omega) hxd).mono ?_
    rintro e w21 ⟨g4, B2, k2, rfl, h2⟩
    have hsz := hf1.size
    have en : allW b (l.take (i + 1)) = applyM (allW b (l.take i)) x m := by rw [takeW gi, allW_snoc, ← hmx, applyM_all]
    refine ⟨_, _, _, rfl, jnC_mk (hC _ _ ⟨hf1.trans1 g4, i + 1, B2, k2, by omega, by rw [ei i (by omega), en], by rw [en]; exact row_lowB hsz h2⟩ ?_)⟩
    show ((n' : Int) - IntKind.wrap .i64 ((i : Int) + 1)).toNat < ((n' : Int) - (i : Int)).toNat
    rw [ei i (by omega)]; omega
  · have hge2 : ¬ (i : Int) < (n' : Int) := of_decide_eq_false hge
    have e : l.take i = l := List.take_of_length_le (by omega)
    rw [e] at hr ⊢
    exact ⟨hf, B, k, rfl, hr⟩
set_option maxHeartbeats 1000000 in
theorem rsurv_calls (A : Option Addr) (n c : Nat) (b : Bs) (A' : Option Addr) (n' c' : Nat) (l : List Wr) (C : Option Addr) (nc cc : Nat) (ch : Bs) (w : World) (h : Sl w 1 A n (bys b)) (hl : WSl w A' n' l) (hC : Sl w 1 C nc (bys ch)) (hb : b.length ≤ 1048576) (hn : n' ≤ 1099511627776) (hd : ∀ x ∈ l, x.data.length ≤ 1048576) :
    Calls Tryz.prog 110 #[.slice A n c, .slice A' n' c', .slice C nc cc] w fun e w' => Fr (fun _ => False) w w' ∧ ∃ B k, e = .returned (.slice B (survW b l ch).length k) ∧ Row w' w.heap.size 5 1 B (survW b l ch).length k (bys (survW b l ch)) := by
  refine (F110.of A n c A' n' c' C nc cc w (Q := fun v w' => Fr (fun _ => False) w w' ∧ ∃ B k, v = .slice B (survW b l ch).length k ∧ Row w' w.heap.size 5 1 B (survW b l ch).length k (bys (survW b l ch))) ?_).mono (fun e w' ⟨v, he, hf, B, k, hv, h⟩ => ⟨hf, B, k, by rw [he, hv], h⟩)
  have hbl := by_n h
  have hcl := by_n hC
  have hwl := wsl_n hl
  refine copy_b h (by omega) (fun B k w1 r1 f1 => ?_)
  have e0 : survW b (l.take 0) ch = b := by rw [List.take_zero]; cases ch <;> rfl
  refine jnC_mk (loop_rule (fun s v => Fr (fun _ => False) w v ∧ ∃ (i : Nat) (B : Option Addr) (k : Nat), i ≤ n' ∧ i ≤ nc ∧ s = ((A', n', c'), (C, nc, cc), (B, (survW b (l.take i) ch).length, k), (i : Int), ()) ∧ Row v w.heap.size 5 1 B (survW b (l.take i) ch).length k (bys (survW b (l.take i) ch)))
      (fun s _ => (n' - s.2.2.2.1).toNat) ?_ _ _ ⟨f1, 0, B, k, by omega, by omega, by rw [e0, hbl]; rfl, by rw [e0, hbl]; exact r1⟩)
  rintro s v C2 ⟨hf, i, B, k, hi, hic, rfl, hr⟩ hC2 _
  have hal := surv_le (l := l.take i) (ch := ch) hb
  have fin : ((i : Int) < (n' : Int) → ¬ (i : Int) < (nc : Int)) → Fr (fun _ => False) w v ∧ ∃ B' k', Value.slice B (survW b (l.take i) ch).length k = .slice B' (survW b l ch).length k' ∧ Row v w.heap.size 5 1 B' (survW b l ch).length k' (bys (survW b l ch)) := by
    intro hh
    have e : survW b (l.take i) ch = survW b l ch := by
      by_cases h0 : (i : Int) < (n' : Int)
      · have hinc := hh h0
        have hi2 : i = nc := by omega
        have e1 : ∀ (l : List Wr) (b ch : Bs), ch.length ≤ l.length → survW b (l.take ch.length) ch = survW b l ch := by
          intro l
          induction l with
          | nil => intro b ch hc; cases ch with
            | nil => rfl
            | cons x r => simp at hc
          | cons y l ih => intro b ch hc; cases ch with
            | nil => rfl
            | cons x r => exact ih (survS b y x) r (by simpa using hc)
        rw [hi2, ← hcl]
        exact e1 l b ch (by omega)
      · rw [List.take_of_length_le (by omega)]
    rw [e] at hr ⊢
    exact ⟨hf, B, k, rfl, hr⟩
  refine vIf_mk (fun hlt => vIf_mk (fun hlc => jnC_mk (fun _ => ?_)) (fun hlc => fin (fun _ => of_decide_eq_false hlc))) (fun hlt => fin (fun h => absurd h (of_decide_eq_false hlt)))
  have hlt : (i : Int) < (n' : Int) := of_decide_eq_true hlt
  have hlc : (i : Int) < (nc : Int) := of_decide_eq_true hlc
  have gi : l[i]? = some (l[i]'(by omega)) := List.getElem?_eq_getElem (by omega)
  have gc : ch[i]? = some (ch[i]'(by omega)) := List.getElem?_eq_getElem (by omega)
  generalize l[i]'(by omega) = x at gi
  generalize ch[i]'(by omega) = y at gc
  have hxd := hd x (List.mem_of_getElem? gi)
  have hst := survW_step gi b ch
  rw [gc] at hst
  have hst : survW b (l.take (i + 1)) ch = survS (survW b (l.take i) ch) x y := hst
  have hlv := hl.fr0 hf
  have hCv := hf.sl hC (fun _ _ _ h => h)
  have hsz := hf.size
  have ms : ((n' : Int) - IntKind.wrap .i64 ((i : Int) + 1)).toNat < ((n' : Int) - (i : Int)).toNat := by rw [ei i (by omega)]; omega
  have hy : y.toNat < 256 := y.toNat_lt
  -- the change is done, or not
  have k8 : ∀ m : Nat, m = (if y.toNat = 255 then x.data.length else y.toNat) → jnC (F110.k8 (fun v w' => Fr (fun _ => False) w w' ∧ ∃ B k, v = .slice B (survW b l ch).length k ∧ Row w' w.heap.size 5 1 B (survW b l ch).length k (bys (survW b l ch))) C2) ((A', n', c'), (C, nc, cc), (B, (survW b (l.take i) ch).length, k), (i : Int), (m : Int), ()) v := by
    intro m hm
    refine jnC_mk (fun _ => by_rd hCv gc (by omega) (vIf_mk (fun hp => ?_) (fun hp => ?_)))
    · have hp := of_decide_eq_true hp
      have hy0 : y ≠ 0 := fun e => by rw [e] at hp; exact absurd hp (by decide)
      refine wr_rdA hlv gi (by omega) (fun cs hx => ?_)
      refine (rapply_calls B _ k _ cs x m v hr.sl hx (by omega) hxd).mono ?_
      rintro e w21 ⟨g4, B2, k2, rfl, h2⟩
      have en : survW b (l.take (i + 1)) ch = applyM (survW b (l.take i) ch) x m := by rw [hst, hm, applyM_part _ _ _ hy0]
      exact ⟨_, _, _, rfl, jnC_mk (hC2 _ _ ⟨hf.trans1 g4, i + 1, B2, k2, by omega, by omega, by rw [ei i (by omega), en], by rw [en]; exact row_lowB hsz h2⟩ ms)⟩
    · have hp := of_decide_eq_false hp
      have hy0 : y = 0 := UInt8.toNat_inj.1 (by show y.toNat = 0; omega)
      have en : survW b (l.take (i + 1)) ch = survW b (l.take i) ch := by rw [hst]; unfold survS; rw [if_pos (.inl hy0)]
      exact jnC_mk (hC2 _ _ ⟨hf, i + 1, B, k, by omega, by omega, by rw [ei i (by omega), en], by rw [en]; exact hr⟩ ms)
  have ew : IntKind.wrap .i64 ((y.toNat : Nat) : Int) = (y.toNat : Int) := i64_id (by omega) (by omega)
  refine by_rd hCv gc (by omega) ?_
  rw [ew]
  refine vIf_mk (fun h255 => ?_) (fun h255 => ?_)
  · have h255 : (y.toNat : Int) = 255 := by simpa using h255
    refine wr_rdD hlv gi (by omega) (fun D m k' hD hm => k8 m ?_)
    rw [if_pos (by omega)]
    have := by_n hD
    omega
  · have h255 : ¬ (y.toNat : Int) = 255 := by simpa using h255
    exact k8 y.toNat (by rw [if_neg (by omega)])
end Go.Proofs.YtfdhaeglhkmmpaaGreat
