/- SHA-256 as the program does it: the hash, and the sum. -/
import Derived.Test.YtmjdcgphahdhbaaDoorLShaT
namespace Go.Proofs.YtmjdcgphahdhbaaDoor
open Go.GV Go.RowKit
set_option linter.unusedVariables false
set_option linter.unusedSimpArgs false
/-! ### slices' parts -/
theorem slA0 {A : Option Addr} {b o c : Nat} (h : A = some ⟨b, o, none⟩) : slA A c 0 1 = some ⟨b, o, none⟩ := by
  subst h
  unfold slA
  split
  · rfl
  · rw [Option.map_some, add_none, Nat.zero_mul, Nat.add_zero]
theorem Sl.take {w : World} {A : Option Addr} {n c k : Nat} {l : List Value} (h : Sl w 1 A n l) (hk : k ≤ n) : Sl w 1 (slA A c 0 1) k (l.take k) := by
  have hl := h.1
  refine ⟨by rw [List.length_take]; omega, fun h0 => ?_⟩
  obtain ⟨b, o, hA, hc⟩ := h.2 (by omega)
  refine ⟨b, o, slA0 hA, fun j v hj => hc j v ?_⟩
  rw [List.getElem?_take] at hj
  split at hj
  · exact hj
  · cases hj
theorem Sl.drop {w : World} {A : Option Addr} {n c k : Nat} {l : List Value} (h : Sl w 1 A n l) (hk : k ≤ n) (hc : n ≤ c) : Sl w 1 (slA A c k 1) (n - k) (l.drop k) := by
  have hl := h.1
  refine ⟨by rw [List.length_drop]; omega, fun h0 => ?_⟩
  obtain ⟨b, o, hA, hcl⟩ := h.2 (by omega)
  subst hA
  refine ⟨b, o + k, ?_, fun j v hj => ?_⟩
  · unfold slA
    rw [if_neg (by omega), Option.map_some, add_none, Nat.mul_one]
  · rw [List.getElem?_drop] at hj
    rw [Nat.add_assoc]
    exact hcl _ v hj
theorem slA_blk {A : Option Addr} {c k n : Nat} : blkOf (slA A c k 1) = blkOf A := by
  unfold slA
  split
  · rfl
  · cases A with
    | none => rfl
    | some a => obtain ⟨b, o, s⟩ := a; cases s <;> simp [blkOf, Addr.add] <;> split <;> rfl
/-- append to a slice that is full -/
theorem app_full {w : World} {B : Nat} {e : TypeId} {sz bytes : Nat} {z : List Value} {A : Option Addr} {n : Nat} {x : Value} {old us : List Value} {m : Nat} {K : Option Addr → Nat → Nat → World → Prop}
    (hs : Sl w sz A n old) (hx : srcOf w sz x m us) (h1 : ∀ v ∈ us, v.oneCell' = true) (hz : z.length = sz) (hb : (n + m) * bytes ≤ 140737488355328) (hm : n + m ≤ 9223372036854775807) (hB : B ≤ w.heap.size)
    (hK0 : m = 0 → us = [] → K A (n + m) n w) (hK : m ≠ 0 → ∀ A' c' w', Row w' B e sz A' (n + m) c' (old ++ us) → Fr (fun _ => False) w w' → (∀ k, blkOf A' = some k → w.heap.size ≤ k) → K A' (n + m) c' w') : app w sz bytes z e A n n x K := by
  have hul : us.length = m * sz := by
    unfold srcOf at hx
    split at hx
    · obtain ⟨rfl, h, _⟩ := hx; exact h
    · obtain ⟨rfl, rfl, rfl⟩ := hx; simp
    · exact hx.elim
  refine ⟨m, us, hx, h1, hb, hm, fun hle => ⟨fun h0 => ?_, fun h0 => absurd hle (by omega)⟩, fun hlt => ⟨old, hs.src, fun cap hc1 hc2 => ?_⟩⟩
  · subst h0
    exact hK0 rfl (List.length_eq_zero_iff.1 (by simpa using hul))
  · refine hK (by omega) _ _ _ ⟨by rw [List.length_append, hs.1, hul, Nat.add_mul], hc1, .inr ⟨_, _, rfl, ?_, heap_alloc_at _ _, ?_, ?_⟩⟩ ?_ (fun k hk => (by simp only [blkOf, Option.some.injEq] at hk; subst hk; exact Nat.le_refl _))
    · exact hB
    · simp only [List.size_toArray, List.length_append, zeros_length, hs.1, hul, hz, ← Nat.add_mul]
      congr 1; omega
    · simp only [List.append_assoc]
      rw [← List.append_assoc, List.take_append_of_le_length (by rw [List.length_append, hs.1, hul, ← Nat.add_mul]; exact Nat.le_refl _), List.take_of_length_le (by rw [List.length_append, hs.1, hul, ← Nat.add_mul]; exact Nat.le_refl _)]
    · exact (Fr.drew _ w).trans1 (Fr.alloc _ _ _)
/-! ### plainly -/
def firstP : List UInt32 := [1779033703, 3144134277, 1013904242, 2773480762, 1359893119, 2600822924, 528734635, 1541459225]
def blocksN (s : List UInt32) (l : List UInt8) : Nat → List UInt32
  | 0 => s
  | k + 1 => blocksN (blockP s (l.take 64)) (l.drop 64) k
theorem blocksN_len : ∀ (k : Nat) {s : List UInt32} {l : List UInt8}, s.length = 8 → (blocksN s l k).length = 8
  | 0, _, _, h => h
  | k + 1, _, _, h => blocksN_len k (blockP_len h)
theorem blocksN_append : ∀ (j : Nat) (s : List UInt32) (a c : List UInt8) (k : Nat), 64 * j ≤ a.length → blocksN s (a ++ c) (j + k) = blocksN (blocksN s a j) (a.drop (64 * j) ++ c) k
  | 0, s, a, c, k, _ => by simp [blocksN]
  | j + 1, s, a, c, k, h => by
    rw [show j + 1 + k = (j + k) + 1 by omega]
    show blocksN (blockP s ((a ++ c).take 64)) ((a ++ c).drop 64) (j + k) = _
    rw [List.take_append_of_le_length (by omega), List.drop_append_of_le_length (by omega), blocksN_append j _ _ _ _ (by rw [List.length_drop]; omega), List.drop_drop, show 64 + 64 * j = 64 * (j + 1) by omega]
    rfl
def be64 (n : Nat) : List UInt8 := [UInt8.ofNat (n / 2 ^ 56), UInt8.ofNat (n / 2 ^ 48), UInt8.ofNat (n / 2 ^ 40), UInt8.ofNat (n / 2 ^ 32), UInt8.ofNat (n / 2 ^ 24), UInt8.ofNat (n / 2 ^ 16), UInt8.ofNat (n / 2 ^ 8), UInt8.ofNat n]
def padP (n : Nat) : List UInt8 := [128] ++ List.replicate ((119 - n % 64) % 64) 0 ++ be64 (8 * n)
theorem padP_len (n : Nat) : (padP n).length = 9 + (119 - n % 64) % 64 := by simp [padP, be64]; omega
def outP (s : List UInt32) : List UInt8 := s.flatMap fun x => [UInt8.ofNat (x.toNat / 2 ^ 24), UInt8.ofNat (x.toNat / 2 ^ 16), UInt8.ofNat (x.toNat / 2 ^ 8), UInt8.ofNat x.toNat]
def shaS (l : List UInt8) : List UInt32 := blocksN firstP (l ++ padP l.length) ((l ++ padP l.length).length / 64)
def shaP (l : List UInt8) : List UInt8 := outP (shaS l)
theorem shaS_len (l : List UInt8) : (shaS l).length = 8 := blocksN_len _ rfl
/-! ### the hash -/
structure HashAt (w : World) (B p : Nat) (l : List UInt8) (e : TypeId) (A : Option Addr) (n c : Nat) : Prop where
  hd : RecAt w p e ((blocksN firstP l (l.length / 64)).map wv ++ [.slice A n c, .int .i64 (l.length : Nat)])
  row : Sl w 1 A n ((l.drop (64 * (l.length / 64))).map bv)
  le : n ≤ c
  ne : blkOf A ≠ some p
  low : ∀ k, blkOf A = some k → B ≤ k
  bp : B ≤ p
theorem HashAt.n {w : World} {B p : Nat} {l : List UInt8} {e : TypeId} {A : Option Addr} {n c : Nat} (h : HashAt w B p l e A n c) : n = l.length % 64 := by
  have := h.row.1
  simp at this; omega
theorem new_hash (w : World) : Calls Tryd.prog 39 #[] w fun e w' => ∃ p ty, e = .returned (.pointer (some ⟨p, 0, none⟩)) ∧ Fr (fun _ => False) w w' ∧ w.heap.size ≤ p ∧ HashAt w' w.heap.size p [] ty none 0 0 := by
  refine (F39.of w (Q := fun v w' => ∃ p ty, v = .pointer (some ⟨p, 0, none⟩) ∧ Fr (fun _ => False) w w' ∧ w.heap.size ≤ p ∧ HashAt w' w.heap.size p [] ty none 0 0) ?_).mono (fun e w' ⟨v, he, p, ty, hv, h⟩ => ⟨p, ty, by rw [he, hv], h⟩)
  refine (F50.of w (Q := fun v w' => v = ofL (firstP.map wv) ∧ Fr (fun _ => False) w w') ?_).mono ?_
  · refine nw_mk (gd_mk rfl ?_)
    have hZ : Z80.length = 8 := by decide +kernel
    have f1 : Fr (fun _ => False) w (w.alloc (.cells Z80.toArray 80)) := Fr.alloc _ _ _
    have r1 : RecAt (w.alloc (.cells Z80.toArray 80)) w.heap.size 80 Z80 := RecAt.new w _ _
    generalize w.alloc (.cells Z80.toArray 80) = w1 at f1 r1 ⊢
    show st w1 w.heap.size 0 (firstP.map wv) _
    refine r1.st_mk (o := 0) (by rw [hZ]; decide) (wv_one _) (fun r f => ?_)
    rw [splice_whole (by rw [hZ]; rfl)] at r
    exact ⟨firstP.map wv, rfl, r.cells (o := 0) (fun j v hj => by simpa using hj), rfl, f1.trans f (fun _ _ h => h) (fun k hk h => by omega)⟩
  rintro e w1 ⟨v, rfl, rfl, f1⟩
  refine ⟨_, rfl, gd_mk rfl (nw_mk ⟨w1.heap.size, 83, rfl, f1.trans1 (Fr.alloc _ _ _), f1.size, ?_⟩)⟩
  exact ⟨RecAt.new _ _ _, Sl.nil _ _ _, Nat.le_refl _, by simp [blkOf], by simp [blkOf], f1.size⟩
theorem wvs_get {S : List UInt32} {z : List Value} (h : S.length = 8) (j : Nat) : (S.map wv ++ z)[8 + j]? = z[j]? := by
  rw [List.getElem?_append_right (by simp [h])]
  congr 1; simp [h]
theorem set_state {S T : List UInt32} {z : List Value} (h : S.length = 8) (h' : T.length = 8) : splice (S.map wv ++ z) 0 (T.map wv) = T.map wv ++ z := by
  unfold splice
  rw [List.take_zero, List.nil_append, Nat.zero_add, List.length_map, h', List.drop_append, List.drop_eq_nil_of_le (by simp [h]), List.nil_append, List.length_map, h]
  rfl
/-- the bytes are read, block by block -/
theorem write_calls (B p : Nat) (l : List UInt8) (ty : TypeId) (A : Option Addr) (n c : Nat) (A1 : Option Addr) (n1 c1 : Nat) (l1 : List UInt8) (w : World) (h : HashAt w B p l ty A n c) (h1 : Sl w 1 A1 n1 (l1.map bv)) (hp : n1 ≠ 0 → blkOf A1 ≠ some p)
    (hK : KAt w) (hpK : p ≠ 1) (hB : B ≤ w.heap.size) (hlen : l.length + l1.length ≤ 70368744177664) :
    Calls Tryd.prog 40 #[.pointer (some ⟨p, 0, none⟩), .slice A1 n1 c1] w fun e w' => e = .returned (.tuple #[]) ∧ Fr (fun k => k = p) w w' ∧ ∃ A' n' c', HashAt w' B p (l ++ l1) ty A' n' c' := by
  refine (F40.of (some ⟨p, 0, none⟩) A1 n1 c1 w (Q := fun v w' => v = .tuple #[] ∧ Fr (fun k => k = p) w w' ∧ ∃ A' n' c', HashAt w' B p (l ++ l1) ty A' n' c') ?_).mono (fun e w' ⟨v, he, hv, h⟩ => ⟨by rw [he, hv], h⟩)
  have hS := blocksN_len (l.length / 64) (s := firstP) (l := l) rfl
  have hn := h.n
  have hl1 : l1.length = n1 := by simpa using h1.1
  generalize hSS : blocksN firstP l (l.length / 64) = S at hS
  have hrec := h.hd
  rw [hSS] at hrec
  refine vIf_f rfl (dr_mk ⟨_, hrec.cell (o := 0 + 9) (wvs_get hS 1), dr_mk ?_⟩)
  have e1 : IntKind.wrap .i64 (((l.length : Nat) : Int) + ((n1 : Nat) : Int)) = (((l ++ l1).length : Nat) : Int) := by
    rw [i64_id (by omega) (by omega), List.length_append, hl1]; omega
  rw [e1]
  refine hrec.st_mk (o := 0 + 9) (by simp [hS]) (by intro v hv; simp only [List.mem_singleton] at hv; subst hv; rfl) (fun r f => ?_)
  have esp : splice (S.map wv ++ [.slice A n c, .int .i64 (l.length : Nat)]) (0 + 9) [.int .i64 ((l ++ l1).length : Nat)] = S.map wv ++ [.slice A n c, .int .i64 ((l ++ l1).length : Nat)] := by
    obtain ⟨a0, a1, a2, a3, a4, a5, a6, a7, rfl⟩ := eight hS
    rfl
  rw [esp] at r
  have hrow2 : Sl (stB w p (0 + 9) [.int .i64 ((l ++ l1).length : Nat)]) 1 A n ((l.drop (64 * (l.length / 64))).map bv) := f.sl h.row (fun _ k hk h' => h.ne (by rw [hk, h']))
  have h12 : Sl (stB w p (0 + 9) [.int .i64 ((l ++ l1).length : Nat)]) 1 A1 n1 (l1.map bv) := f.sl h1 (fun h0 k hk h' => hp h0 (by rw [hk, h']))
  have hK2 : KAt (stB w p (0 + 9) [.int .i64 ((l ++ l1).length : Nat)]) := hK.fr f (fun h' => hpK h'.symm)
  have hB2 : B ≤ (stB w p (0 + 9) [.int .i64 ((l ++ l1).length : Nat)]).heap.size := by rw [stB_size]; exact hB
  have hpl : p < (stB w p (0 + 9) [.int .i64 ((l ++ l1).length : Nat)]).heap.size := r.lt
  generalize stB w p (0 + 9) [.int .i64 ((l ++ l1).length : Nat)] = w2 at r f hrow2 h12 hK2 hB2 hpl ⊢
  have r' : RecAt w2.drew p ty (S.map wv ++ [.slice A n c, .int .i64 ((l ++ l1).length : Nat)]) := r
  refine dr_mk ⟨_, _, _, r'.cell (o := 0 + 8) (wvs_get hS 0), dr_mk ⟨_, _, _, r'.cell (o := 0 + 8) (wvs_get hS 0), dr_mk ⟨_, _, _, r'.cell (o := 0 + 8) (wvs_get hS 0), ?_⟩⟩⟩
  have hle := h.le
  refine gd_mk (decide_eq_true (Int.natCast_nonneg n)) (gd_mk (decide_eq_true (by omega)) (gd_mk (decide_eq_true (Int.natCast_nonneg n)) (gd_mk (decide_eq_true (by rw [Int.toNat_natCast]; omega)) ?_)))
  rw [Int.toNat_natCast]
  generalize hR : l.drop (64 * (l.length / 64)) = R at hrow2
  have hRl : R.length = n := by simpa using hrow2.1
  -- what goes on with all bytes
  have go : ∀ (A2 : Option Addr) (c2 : Nat) (w3 : World), Fr (fun _ => False) w2.drew w3 → Sl w3 1 A2 (n + n1) ((R ++ l1).map bv) → n + n1 ≤ c2 → blkOf A2 ≠ some p →
      jnC (F40.l3 (fun v w' => v = .tuple #[] ∧ Fr (fun k => k = p) w w' ∧ ∃ A' n' c', HashAt w' B p (l ++ l1) ty A' n' c')) (some ⟨p, 0, none⟩, (A2, n + n1, c2), ()) w3 := by
    intro A2 c2 w3 f3 hs2 hc2 hne2
    refine jnC_mk (loop_rule (fun s u => Fr (fun k => k = p) w u ∧ ∃ (j : Nat) (A3 : Option Addr) (n3 c3 : Nat), 64 * j ≤ (R ++ l1).length ∧ s = (some ⟨p, 0, none⟩, (A3, n3, c3), ()) ∧ Sl u 1 A3 n3 (((R ++ l1).drop (64 * j)).map bv) ∧ n3 ≤ c3 ∧ blkOf A3 ≠ some p ∧
        RecAt u p ty ((blocksN S (R ++ l1) j).map wv ++ [.slice A n c, .int .i64 ((l ++ l1).length : Nat)])) (fun s _ => s.2.1.2.1) ?_ _ _ ⟨?_, 0, A2, n + n1, c2, by omega, rfl, hs2, hc2, hne2, r.fr (S := fun _ => False) ((Fr.drew _ _).trans1 f3) (fun h => h)⟩)
    rotate_left
    · exact f.trans ((Fr.drew _ w2).trans1 f3) (fun _ _ h => h) (fun k _ h => h.elim)
    rintro s u C ⟨hf, j, A3, n3, c3, hj, rfl, hs3, hc3, hne3, hr3⟩ hC _
    have hSj := blocksN_len j (s := S) (l := R ++ l1) hS
    have hl3 : ((R ++ l1).drop (64 * j)).length = n3 := by simpa using hs3.1
    have hKu : KAt u := hK.fr hf (fun h' => hpK h'.symm)
    refine vIf_mk (fun hlt => ?_) (fun hge => ?_)
    · have hlt2 : (n3 : Int) ≥ 64 := of_decide_eq_true hlt
      have hr3' : RecAt u.drew p ty _ := hr3
      refine dr_mk ⟨(blocksN S (R ++ l1) j).map wv, by simpa using hSj, hr3'.cells (o := 0) (fun q v hq => by
        rw [Nat.zero_add, List.getElem?_append_left (List.getElem?_eq_some_iff.1 hq).1]; exact hq), gd_mk (decide_eq_true (by show (64 : Int) ≤ (c3 : Nat); omega)) ?_⟩
      have ht : Sl u.drew 1 (slA A3 c3 0 1) 64 ((((R ++ l1).drop (64 * j)).take 64).map bv) := by rw [List.map_take]; exact Sl.take (show Sl u.drew 1 A3 n3 _ from hs3) (by omega)
      refine (block_calls (slA A3 c3 0 1) c3 _ _ u.drew ht (by omega) hSj hKu).mono ?_
      rintro e u2 ⟨rfl, f2⟩
      have f2' : Fr (fun _ => False) u u2 := (Fr.drew _ _).trans1 f2
      have hbl := blockP_len (s := blocksN S (R ++ l1) j) (b := ((R ++ l1).drop (64 * j)).take 64) hSj
      refine ⟨_, rfl, dr_mk (gd_mk (by simpa using hbl) ?_)⟩
      refine (hr3.fr f2' (fun h => h)).st_mk (o := 0) (by simp [hSj, hbl]) (wv_one _) (fun r4 f4 => gd_mk (decide_eq_true (by show (64 : Int) ≤ (n3 : Nat); omega)) (jnC_mk (hC _ _ ⟨?_, j + 1, _, _, _, ?_, rfl, ?_, ?_, ?_, ?_⟩ ?_)))
      · exact (hf.trans f2' (fun _ _ h => h) (fun _ _ h => h.elim)).trans1 f4
      · simp at hl3 ⊢; omega
      · have := Sl.drop (c := c3) hs3 (k := 64) (by omega) hc3
        rw [← List.map_drop, List.drop_drop] at this
        have hthis := (f2'.sl this (fun _ _ _ h => h))
        exact f4.sl hthis (fun _ k hk h' => hne3 (by rw [slA_blk (n := 0)] at hk; rw [hk, h']))
      · show n3 - 64 ≤ c3 - 64; omega
      · rw [slA_blk (n := 0)]; exact hne3
      · rw [set_state hSj hbl] at r4
        have : blocksN S (R ++ l1) (j + 1) = blockP (blocksN S (R ++ l1) j) (((R ++ l1).drop (64 * j)).take 64) := by
          have := blocksN_append j S (R ++ l1) [] 1 hj
          rw [List.append_nil, List.append_nil] at this
          exact this
        rw [this]
        exact r4
      · show n3 - 64 < n3; omega
    · have hge2 : ¬ (n3 : Int) ≥ 64 := of_decide_eq_false hge
      have hsrc := hs3.src (c := c3)
      refine app_row2 (Row.nil u B 5 1) hsrc (bvs_one _) rfl (by simp at hl3; omega) (by simp at hl3; omega) (by have := hf.size; omega) (fun A4 c4 w4 hr4 f4 hb4 => ?_)
      have f4' : Fr (fun _ => False) u w4 := f4.mono (fun k _ hk => by simp [blkOf] at hk)
      have hpu := hr3.lt
      have hA4 : blkOf A4 ≠ some p := fun hk => by
        rcases hb4 p hk with h' | h'
        · simp [blkOf] at h'
        · omega
      refine dr_mk ((hr3.fr f4' (fun h => h)).st_mk (o := 0 + 8) (by simp [hSj]) (by intro v hv; simp only [List.mem_singleton] at hv; subst hv; rfl) (fun r5 f5 => ?_))
      have hq : (l ++ l1).length / 64 = l.length / 64 + j := by
        simp only [List.length_append, List.length_drop] at hl3 hj ⊢
        omega
      have hbl : blocksN firstP (l ++ l1) ((l ++ l1).length / 64) = blocksN S (R ++ l1) j := by
        rw [hq, blocksN_append _ _ _ _ _ (by omega), hSS, hR]
      have hdr : (l ++ l1).drop (64 * ((l ++ l1).length / 64)) = (R ++ l1).drop (64 * j) := by
        rw [hq, Nat.mul_add, ← List.drop_drop, List.drop_append_of_le_length (by omega), hR]
      refine ⟨rfl, (hf.trans f4' (fun _ _ h => h) (fun _ _ h => h.elim)).trans1 f5, A4, 0 + n3, c4, ?_, ?_, hr4.le, hA4, fun k hk => (hr4.blt hk).1, h.bp⟩
      · rw [hbl]
        have esp2 : ∀ T : List UInt32, T.length = 8 → splice (T.map wv ++ [.slice A n c, .int .i64 ((l ++ l1).length : Nat)]) (0 + 8) [.slice A4 (0 + n3) c4] = T.map wv ++ [.slice A4 (0 + n3) c4, .int .i64 ((l ++ l1).length : Nat)] := by
          intro T hT
          obtain ⟨a0, a1, a2, a3, a4, a5, a6, a7, rfl⟩ := eight hT
          rfl
        rw [esp2 _ hSj] at r5
        exact r5
      · rw [hdr]
        have := hr4.sl
        rw [List.nil_append] at this
        exact f5.sl this (fun _ k hk h' => hA4 (by rw [hk, h']))
  have hs0 : Sl w2.drew 1 (slA A n 0 1) n (R.map bv) := by
    have := Sl.take (c := n) (show Sl w2.drew 1 A n _ from hrow2) (Nat.le_refl n)
    rwa [List.take_of_length_le (by simp [hRl])] at this
  have hne0 : blkOf (slA A n 0 1) ≠ some p := by rw [slA_blk (n := 0)]; exact h.ne
  refine app_full (B := B) hs0 (show srcOf w2.drew 1 (.slice A1 n1 c1) n1 (l1.map bv) from Sl.src (show Sl w2.drew 1 A1 n1 _ from h12)) (bvs_one _) rfl (by omega) (by omega) hB2 (fun h0 hu => ?_) (fun h0 A' c' w3 hr3 f3 hb3 => ?_)
  · subst h0
    have hl10 : l1 = [] := List.length_eq_zero_iff.1 hl1
    subst hl10
    exact go _ _ _ (Fr.refl _ _) (by rw [List.append_nil]; exact hs0) (by omega) hne0
  · refine go _ _ _ f3 (by rw [List.map_append]; exact hr3.sl) hr3.le (fun hk => ?_)
    have := hb3 p hk
    have : w2.drew.heap.size = w2.heap.size := rfl
    omega
end Go.Proofs.YtmjdcgphahdhbaaDoor
