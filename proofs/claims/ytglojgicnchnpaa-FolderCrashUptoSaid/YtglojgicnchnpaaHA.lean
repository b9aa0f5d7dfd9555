/- chapter 11: names read; the place of a name; CompactFunc; what lasts -/
import Derived.Test.YtglojgicnchnpaaHP
import Derived.Test.YtglojgicnchnpaaLInt0
import Derived.Test.YtglojgicnchnpaaLInsNm
import Derived.Test.YtglojgicnchnpaaLClnNm
import Derived.Test.YtglojgicnchnpaaLClnCh
import Derived.Test.YtglojgicnchnpaaLStbZNm
namespace Go.Proofs.Ytglojgicnchnpaa
open Go.GV Go.RowKit Go.Lib Go.Stb
set_option linter.unusedVariables false
set_option linter.unusedSimpArgs false
def NRow (w : World) (B : Nat) (A : Option Addr) (n c : Nat) (l : List Nm) : Prop := Row w B 48 2 A n c (flt encN l) ∧ l.length = n
def NSl (w : World) (A : Option Addr) (n : Nat) (l : List Nm) : Prop := Sl w 2 A n (flt encN l) ∧ l.length = n
theorem NRow.sl {w : World} {B : Nat} {A : Option Addr} {n c : Nat} {l : List Nm} (h : NRow w B A n c l) : NSl w A n l := ⟨h.1.sl, h.2⟩
theorem NRow.fr0 {w w' : World} {B : Nat} {A : Option Addr} {n c : Nat} {l : List Nm} (h : NRow w B A n c l) (f : Fr (fun _ => False) w w') : NRow w' B A n c l := ⟨f.row h.1 (fun _ _ h => h), h.2⟩
theorem NSl.fr0 {w w' : World} {A : Option Addr} {n : Nat} {l : List Nm} (h : NSl w A n l) (f : Fr (fun _ => False) w w') : NSl w' A n l := ⟨f.sl h.1 (fun _ _ _ h => h), h.2⟩
theorem n_rd {w : World} {A : Option Addr} {n : Nat} {l : List Nm} (h : NSl w A n l) {i : Nat} {x : Nm} (hi : l[i]? = some x) {ii : Int} (hii : ii = (i : Int)) {K : List Value → Prop} (hK : K (encN x)) :
    dr A fun b o => gd (decide (0 ≤ ii)) (gd (decide (ii < ((n : Nat) : Int))) (ldA 2 w b (o + ii.toNat * 2) K)) :=
  el_rd h.1 (fun x _ => rfl) hi hii h.2 (fun b o hA hc => ⟨encN x, rfl, hc, hK⟩)
theorem n_rdS {w : World} {A : Option Addr} {n : Nat} {l : List Nm} (h : NSl w A n l) {i : Nat} {x : Nm} (hi : l[i]? = some x) {ii : Int} (hii : ii = (i : Int)) {K : ByteArray → Prop} (hK : K x.1) :
    dr A fun b o => gd (decide (0 ≤ ii)) (gd (decide (ii < ((n : Nat) : Int))) (ldS w b (o + ii.toNat * 2) K)) :=
  el_rd h.1 (fun x _ => rfl) hi hii h.2 (fun b o hA hc => ⟨x.1, hc 0 _ rfl, hK⟩)
theorem n_rdI {w : World} {A : Option Addr} {n : Nat} {l : List Nm} (h : NSl w A n l) {i : Nat} {x : Nm} (hi : l[i]? = some x) {ii : Int} (hii : ii = (i : Int)) {K : Int → Prop} (hK : K x.2) :
    dr A fun b o => gd (decide (0 ≤ ii)) (gd (decide (ii < ((n : Nat) : Int))) (ldI .i64 w b ((o + ii.toNat * 2) + 1) K)) :=
  el_rd h.1 (fun x _ => rfl) hi hii h.2 (fun b o hA hc => ⟨x.2, hc 1 _ rfl, hK⟩)
theorem byName_calls (x : Nm) (s : ByteArray) (w : World) :
    Calls Try.prog 25 #[ofL (encN x), .string s] w fun e w' => e = .returned (.int .i64 (cmpN x.1 s)) ∧ Fr (fun _ => False) w w' := by
  refine (F25.of _ s w (Q := fun v w' => v = .int .i64 (cmpN x.1 s) ∧ Fr (fun _ => False) w w') ?_).mono (fun e w' ⟨v, he, hv, h⟩ => ⟨by rw [he, hv], h⟩)
  refine nw_mk ?_
  have f1 : Fr (fun _ => False) w (w.alloc (.cells (encN x).toArray 48)) := Fr.alloc _ _ _
  have r1 := RecAt.new w (encN x) 48
  generalize w.alloc (.cells (encN x).toArray 48) = w1 at f1 r1 ⊢
  refine ⟨x.1, r1.cell rfl, (strcmp_calls x.1 s w1).mono ?_⟩
  rintro r w2 ⟨rfl, rfl⟩
  exact ⟨_, rfl, rfl, f1⟩
theorem two_new (x y : Nm) (w : World) {K : Nat → Nat → World → Prop} (hK : ∀ b1 b2 w', Fr (fun _ => False) w w' → RecAt w' b1 48 (encN x) → RecAt w' b2 48 (encN y) → K b1 b2 w') : nw w (encN x) 48 fun b1 w1 => nw w1 (encN y) 48 fun b2 w2 => K b1 b2 w2 := by
  refine nw_mk (nw_mk ?_)
  have f1 : Fr (fun _ => False) w (w.alloc (.cells (encN x).toArray 48)) := Fr.alloc _ _ _
  have r1 := RecAt.new w (encN x) 48
  generalize w.alloc (.cells (encN x).toArray 48) = w1 at f1 r1 ⊢
  have f2 : Fr (fun _ => False) w1 (w1.alloc (.cells (encN y).toArray 48)) := Fr.alloc _ _ _
  exact hK _ _ _ (f1.trans1 f2) (r1.fr f2 (fun h => h)) (RecAt.new w1 (encN y) 48)
theorem lcmp_calls (x y : Nm) (w : World) :
    Calls Try.prog 42 #[ofL (encN x), ofL (encN y)] w fun e w' => e = .returned (.int .i64 (cmpM x y)) ∧ Fr (fun _ => False) w w' := by
  refine (F42.of _ _ w (Q := fun v w' => v = .int .i64 (cmpM x y) ∧ Fr (fun _ => False) w w') ?_).mono (fun e w' ⟨v, he, hv, h⟩ => ⟨by rw [he, hv], h⟩)
  refine two_new x y w (fun b1 b2 w1 f r1 r2 => ⟨x.1, r1.cell rfl, y.1, r2.cell rfl, (strcmp_calls x.1 y.1 w1).mono ?_⟩)
  rintro r w2 ⟨rfl, rfl⟩
  exact ⟨_, rfl, rfl, f⟩
theorem leq_calls (x y : Nm) (w : World) :
    Calls Try.prog 44 #[ofL (encN x), ofL (encN y)] w fun e w' => e = .returned (.bool (decide (x.1 = y.1))) ∧ Fr (fun _ => False) w w' := by
  refine (F44.of _ _ w (Q := fun v w' => v = .bool (decide (x.1 = y.1)) ∧ Fr (fun _ => False) w w') ?_).mono (fun e w' ⟨v, he, hv, h⟩ => ⟨by rw [he, hv], h⟩)
  refine two_new x y w (fun b1 b2 w1 f r1 r2 => ⟨x.1, r1.cell rfl, y.1, r2.cell rfl, ?_, f⟩)
  rw [neq]
theorem lsrt : StbNm.Srt Nm encN cmpM := ⟨fun _ => rfl, encN_o.one, cmpM_ord, lcmp_calls⟩
theorem mem_take_lt {α : Type} {l : List α} {i : Nat} {x : α} (h : x ∈ l.take i) : ∃ j, j < i ∧ l[j]? = some x := by
  obtain ⟨j, hj⟩ := List.mem_iff_getElem?.1 h
  rw [List.getElem?_take] at hj
  split at hj
  · exact ⟨j, by assumption, hj⟩
  · cases hj
theorem mem_drop_ge {α : Type} {l : List α} {i : Nat} {x : α} (h : x ∈ l.drop i) : ∃ j, i ≤ j ∧ l[j]? = some x := by
  obtain ⟨j, hj⟩ := List.mem_iff_getElem?.1 h
  rw [List.getElem?_drop] at hj
  exact ⟨i + j, by omega, hj⟩
theorem asc_lt {l : List Nm} (h : AscN l) {i j : Nat} {x y : Nm} (hi : l[i]? = some x) (hj : l[j]? = some y) (hij : i < j) : cmpN x.1 y.1 < 0 := by
  obtain ⟨h1, rfl⟩ := List.getElem?_eq_some_iff.1 hi
  obtain ⟨h2, rfl⟩ := List.getElem?_eq_some_iff.1 hj
  exact (List.pairwise_iff_getElem.1 h) i j h1 h2 hij
/-! ### where a name lies -/
theorem bsN_calls (A : Option Addr) (n c : Nat) (l : List Nm) (nm : ByteArray) (w : World) (h : NSl w A n l) (ha : AscN l) (hn : n ≤ 17179869184) :
    Calls Try.prog 24 #[.slice A n c, .string nm, .func (.func 25) #[] #[]] w fun e w' => Fr (fun _ => False) w w' ∧ ∃ i : Nat, e = .returned (.tuple #[.int .i64 i, .bool (isN nm i l)]) ∧ PlN nm i l := by
  refine (F24s.of A n c nm w (Q := fun v w' => Fr (fun _ => False) w w' ∧ ∃ i : Nat, v = .tuple #[.int .i64 i, .bool (isN nm i l)] ∧ PlN nm i l) ?_).mono (fun e w' ⟨v, he, hf, i, hv, h⟩ => ⟨hf, i, by rw [he, hv], h⟩)
  have hl := h.2
  refine jnC_mk (loop_rule (fun s u => Fr (fun _ => False) w u ∧ ∃ i j : Nat, i ≤ j ∧ j ≤ n ∧ s = ((A, n, c), nm, (), (n : Int), (i : Int), (j : Int), ()) ∧ (∀ x ∈ l.take i, cmpN x.1 nm < 0) ∧ ∀ x ∈ l.drop j, ¬ cmpN x.1 nm < 0)
    (fun s _ => (s.2.2.2.2.2.1 - s.2.2.2.2.1).toNat) ?_ _ _ ⟨Fr.refl _ _, 0, n, by omega, by omega, rfl, by simp, by rw [List.drop_of_length_le (by omega)]; intro x hx; cases hx⟩)
  rintro s u C ⟨hf, i, j, hij, hjn, rfl, hlo, hhi⟩ hC _
  refine vIf_mk (fun hlt => ?_) (fun hge => ?_)
  · have hlt2 : (i : Int) < (j : Int) := of_decide_eq_true hlt
    have em : IntKind.wrap .i64 (Int.fdiv (IntKind.wrap .u64 (IntKind.wrap .i64 ((i : Int) + (j : Int)))) (2 ^ 1)) = (((i + j) / 2 : Nat) : Int) := by
      rw [i64_id (n := (i : Int) + (j : Int)) (by omega) (by omega), IntKind.wrap_u64, Int.fdiv_eq_ediv_of_nonneg _ (by decide), i64_id (by omega) (by omega)]; omega
    have gi : l[(i + j) / 2]? = some (l[(i + j) / 2]'(by omega)) := List.getElem?_eq_getElem (by omega)
    generalize l[(i + j) / 2]'(by omega) = x at gi
    dsimp only
    rw [em]
    refine n_rd (h.fr0 hf) gi rfl ((byName_calls x nm u).mono ?_)
    rintro r u2 ⟨rfl, f2⟩
    refine ⟨_, rfl, vIf_mk (fun h1 => jnC_mk (hC _ _ ⟨hf.trans1 f2, (i + j) / 2 + 1, j, by omega, hjn, by rw [ei _ (by omega)], fun y hy => ?_, hhi⟩ ?_)) (fun h1 => jnC_mk (hC _ _ ⟨hf.trans1 f2, i, (i + j) / 2, by omega, by omega, rfl, hlo, fun y hy => ?_⟩ ?_))⟩
    · have h1 := of_decide_eq_true h1
      obtain ⟨q, hq, hy⟩ := mem_take_lt hy
      by_cases hqm : q = (i + j) / 2
      · rw [hqm] at hy; rw [gi] at hy; injection hy with hy; subst hy; exact h1
      · exact cmpN_trans (asc_lt ha hy gi (by omega)) h1
    · show ((j : Int) - IntKind.wrap .i64 ((((i + j) / 2 : Nat) : Int) + 1)).toNat < ((j : Int) - (i : Int)).toNat
      rw [ei _ (by omega)]; omega
    · have h1 := of_decide_eq_false h1
      obtain ⟨q, hq, hy⟩ := mem_drop_ge hy
      by_cases hqm : q = (i + j) / 2
      · rw [hqm] at hy; rw [gi] at hy; injection hy with hy; subst hy; exact h1
      · intro h2
        exact h1 (cmpN_trans (asc_lt ha gi hy (by omega)) h2)
    · show ((((i + j) / 2 : Nat) : Int) - (i : Int)).toNat < ((j : Int) - (i : Int)).toNat
      omega
  · have hge2 : ¬ (i : Int) < (j : Int) := of_decide_eq_false hge
    have hij2 : i = j := by omega
    subst hij2
    have hpl : PlN nm i l := ⟨by omega, hlo, hhi⟩
    refine vIf_mk (fun h1 => ?_) (fun h1 => ?_)
    · have h1 : (i : Int) < (n : Int) := of_decide_eq_true h1
      have gi : l[i]? = some (l[i]'(by omega)) := List.getElem?_eq_getElem (by omega)
      generalize l[i]'(by omega) = x at gi
      refine n_rd (h.fr0 hf) gi rfl ((byName_calls x nm u).mono ?_)
      rintro r u2 ⟨rfl, f2⟩
      refine ⟨_, rfl, hf.trans1 f2, i, ?_, hpl⟩
      have : isN nm i l = (cmpN x.1 nm == 0) := by
        unfold isN
        rw [gi, Bool.eq_iff_iff, decide_eq_true_iff, beq_iff_eq]
        exact (cmpN_zero _ _).symm
      rw [this]
    · have h1 : ¬ (i : Int) < (n : Int) := of_decide_eq_false h1
      refine ⟨hf, i, ?_, hpl⟩
      have : isN nm i l = false := by
        unfold isN
        rw [List.getElem?_eq_none (by omega)]
      rw [this]
/-! ### CompactFunc -/
theorem row_clearN {w : World} {B : Nat} {b n c k : Nat} {P : List Nm} {K : World → Prop} (hr : NRow w B (some ⟨b, 0, none⟩) n c P) (hk : k < n)
    (hK : ∀ w', NRow w' B (some ⟨b, 0, none⟩) k c (P.take k) → Fr (fun j => j = b) w w' → K w') : dr (slA (some (⟨b, 0, none⟩ : Addr)) c k 2) fun b o => st w b o (zeros (n - k) [.string (⟨#[]⟩ : ByteArray), .int .i64 0]) K := by
  have hle := hr.1.le
  have hPl := hr.2
  have hzl : (zeros (n - k) [Value.string (⟨#[]⟩ : ByteArray), .int .i64 0]).length = (n - k) * 2 := by rw [zeros_length]; rfl
  have hpt := row_putG (o' := k * 2) (us := zeros (n - k) [Value.string (⟨#[]⟩ : ByteArray), .int .i64 0]) (K := K) hr.1 (by omega) (by rw [hzl]; omega) (zeros_one (by simp; exact ⟨rfl, rfl⟩)) (fun w6 hr6 f6 => hK w6 ⟨?_, by rw [List.length_take]; omega⟩ (f6.mono (fun j _ hj => by simpa [blkOf] using hj.symm)))
  · rw [slS (by omega), ← Nat.zero_add (k * 2)]
    exact hpt
  · have h7 := row_cutG hr6 (k := k) (by omega)
    have e : (splice (flt encN P) (k * 2) (zeros (n - k) [Value.string (⟨#[]⟩ : ByteArray), .int .i64 0])).take (k * 2) = flt encN (P.take k) := by
      rw [← encN_o.ft P (by omega)]
      unfold splice
      rw [List.append_assoc, List.take_append_of_le_length (by rw [List.length_take, encN_o.fl]; omega), List.take_take, Nat.min_self]
    rw [e] at h7
    exact h7
set_option maxHeartbeats 1000000 in
theorem compactN_calls (B : Nat) (A : Option Addr) (c : Nat) (r : List Nm) (n : Nat) (w : World) (h : NRow w B A n c r) (hn : n ≤ 1099511627775) :
    Calls Try.prog 43 #[.slice A n c, .func (.func 44) #[] #[]] w fun e' w' => e' = .returned (.slice A (cptN r n).length c) ∧ Fr (fun k => blkOf A = some k) w w' ∧ NRow w' B A (cptN r n).length c (cptN r n) := by
  refine (F43s.of A n c w (Q := fun v w' => v = .slice A (cptN r n).length c ∧ Fr (fun k => blkOf A = some k) w w' ∧ NRow w' B A (cptN r n).length c (cptN r n)) ?_).mono (fun e w' ⟨v, he, hv, h⟩ => ⟨by rw [he, hv], h⟩)
  have hrl := h.2
  have whole : ∀ i, i ≤ n → cptN r i = r.take i → i = n → ∀ u, Fr (fun k => blkOf A = some k) w u → NRow u B A n c r → (Value.slice A n c = .slice A (cptN r n).length c ∧ Fr (fun k => blkOf A = some k) w u ∧ NRow u B A (cptN r n).length c (cptN r n)) := by
    intro i hi hc he u hf hr
    subst he
    rw [hc, List.take_of_length_le (by omega), hrl]
    exact ⟨rfl, hf, hr⟩
  have one : 1 ≤ n → cptN r 1 = r.take 1 := fun _ => by simp [cptN, List.take_one, List.head?_eq_getElem?]
  refine vIf_mk (fun h2 => ?_) (fun h2 => jnC_mk ?_)
  · have h2 : (n : Int) < 2 := of_decide_eq_true h2
    refine whole n (Nat.le_refl _) ?_ rfl w (Fr.refl _ _) h
    match n, h2, one with
    | 0, _, _ => rfl
    | 1, _, one => exact one (Nat.le_refl _)
    | n + 2, h2, _ => omega
  have h2 : ¬ (n : Int) < 2 := of_decide_eq_false h2
  have hle := h.1.le
  obtain ⟨b, hA⟩ : ∃ b, A = some ⟨b, 0, none⟩ := by
    rcases h.1.at_ with ⟨_, h0, _⟩ | ⟨b, _, hA, _⟩
    · omega
    · exact ⟨b, hA⟩
  subst hA
  refine loop_rule (fun s u => Fr (fun k => blkOf (some (⟨b, 0, none⟩ : Addr)) = some k) w u ∧ NRow u B (some ⟨b, 0, none⟩) n c r ∧ ∃ i : Nat, 1 ≤ i ∧ i ≤ n ∧ s = ((some ⟨b, 0, none⟩, n, c), (), (i : Int), ()) ∧ cptN r i = r.take i)
    (fun s _ => (n - s.2.2.1).toNat) ?_ _ _ ⟨Fr.refl _ _, h, 1, by omega, by omega, rfl, one (by omega)⟩
  rintro s u C4 ⟨hf, hr, i, hi1, hi, rfl, hc⟩ hC4 _
  refine vIf_mk (fun hlt => ?_) (fun hge => ?_)
  · have hlt2 : (i : Int) < (n : Int) := of_decide_eq_true hlt
    have hrd := hr.fr0 (Fr.drew (fun _ => False) u)
    have ei1 : IntKind.wrap .i64 ((i : Int) - 1) = ((i - 1 : Nat) : Int) := by rw [i64_id (by omega) (by omega)]; omega
    have gi : r[i]? = some (r[i]'(by omega)) := List.getElem?_eq_getElem (by omega)
    have gp : r[i - 1]? = some (r[i - 1]'(by omega)) := List.getElem?_eq_getElem (by omega)
    generalize r[i]'(by omega) = x at gi
    generalize r[i - 1]'(by omega) = y at gp
    dsimp only
    rw [ei1]
    refine n_rd hrd.sl gi rfl (n_rd hrd.sl gp rfl ((leq_calls x y u.drew).mono ?_))
    rintro e1 u1 ⟨rfl, f1⟩
    have hr1 := hrd.fr0 f1
    have hf1 : Fr (fun k => blkOf (some (⟨b, 0, none⟩ : Addr)) = some k) w u1 := (hf.trans1 (Fr.drew _ _)).trans1 (f1.mono (fun _ _ h => h.elim))
    refine ⟨_, rfl, vIf_mk (fun he => ?_) (fun hne => ?_)⟩
    · have he : x.1 = y.1 := of_decide_eq_true he
      have hsame : cptN r (i + 1) = r.take i := by
        rw [cptN, if_pos ⟨by omega, by rw [gi, gp, Option.map_some, Option.map_some, he]⟩, List.append_nil, hc]
      refine gd_mk (decide_eq_true (by omega)) (gd_mk (decide_eq_true (by omega)) (jnC_mk ?_))
      rw [Int.toNat_natCast]
      have hsl : slA (some (⟨b, 0, none⟩ : Addr)) c i 2 = some ⟨b, i * 2, none⟩ := slS (by omega)
      rw [hsl]
      refine loop_rule (fun s u => Fr (fun k => blkOf (some (⟨b, 0, none⟩ : Addr)) = some k) w u ∧ ∃ (j : Nat) (P : List Nm), 1 ≤ j ∧ i + j ≤ n ∧ P.length = n ∧ NRow u B (some ⟨b, 0, none⟩) n c P ∧ (cptN r (i + j)).length < i + j ∧ P.take (cptN r (i + j)).length = cptN r (i + j) ∧ P.drop (cptN r (i + j)).length = r.drop (cptN r (i + j)).length ∧
          s = ((some ⟨b, 0, none⟩, n, c), (), (((cptN r (i + j)).length : Nat) : Int), (some ⟨b, i * 2, none⟩, n - i, c - i), (j : Int), ()))
        (fun s _ => (n - s.2.2.2.2.1).toNat) ?_ _ _ ⟨hf1, 1, r, by omega, by omega, hrl, hr1, ?_, ?_, ?_, ?_⟩
      rotate_left
      · rw [hsame, List.length_take]; omega
      · rw [hsame, List.length_take, Nat.min_eq_left (by omega)]
      · rfl
      · rw [hsame, List.length_take, Nat.min_eq_left (by omega)]; rfl
      clear hC4 hf hr hrd hr1 hf1 f1 gi gp he hlt hlt2 ei1
      rintro s u C9 ⟨hf, j, P, hj1, hjn, hPl, hr, hk, htk, hdp, rfl⟩ hC9 _
      generalize hkk : (cptN r (i + j)).length = k at hk htk hdp
      have hrd := hr.fr0 (Fr.drew (fun _ => False) u)
      have hget : ∀ q, k ≤ q → P[q]? = r[q]? := by
        intro q hq
        have h1 : (P.drop k)[q - k]? = (r.drop k)[q - k]? := by rw [hdp]
        rw [List.getElem?_drop, List.getElem?_drop, show k + (q - k) = q by omega] at h1
        exact h1
      have tail : ∀ v, NRow v B (some ⟨b, 0, none⟩) n c P → NSl v (some (⟨b, i * 2, none⟩ : Addr)) (n - i) (P.drop i) := by
        intro v hv
        have := hv.1.tailS (k := i) (by omega)
        rw [hsl, encN_o.fd P (by omega)] at this
        exact ⟨this, by rw [List.length_drop]; omega⟩
      refine vIf_mk (fun hlt => ?_) (fun hge => ?_)
      · have hlt3 : (j : Int) < ((n - i : Nat) : Int) := of_decide_eq_true hlt
        have ej : IntKind.wrap .i64 ((j : Int) - 1) = ((j - 1 : Nat) : Int) := by rw [i64_id (by omega) (by omega)]; omega
        have gi : r[i + j]? = some (r[i + j]'(by omega)) := List.getElem?_eq_getElem (by omega)
        have gp : r[i + j - 1]? = some (r[i + j - 1]'(by omega)) := List.getElem?_eq_getElem (by omega)
        generalize r[i + j]'(by omega) = x at gi
        generalize r[i + j - 1]'(by omega) = y at gp
        have ti : (P.drop i)[j]? = some x := by rw [List.getElem?_drop, hget _ (by omega), gi]
        have tp : (P.drop i)[j - 1]? = some y := by rw [List.getElem?_drop, show i + (j - 1) = i + j - 1 by omega, hget _ (by omega), gp]
        dsimp only
        rw [ej]
        refine n_rd (tail _ hrd) ti rfl (n_rd (tail _ hrd) tp rfl ((leq_calls x y u.drew).mono ?_))
        rintro e1 u1 ⟨rfl, f1⟩
        have hr1 := hrd.fr0 f1
        have hf1 : Fr (fun k => blkOf (some (⟨b, 0, none⟩ : Addr)) = some k) w u1 := (hf.trans1 (Fr.drew _ _)).trans1 (f1.mono (fun _ _ h => h.elim))
        have enext : IntKind.wrap .i64 ((j : Int) + 1) = ((j + 1 : Nat) : Int) := by rw [i64_id (by omega) (by omega)]; rfl
        have hmeas : ((n : Int) - IntKind.wrap .i64 ((j : Int) + 1)).toNat < ((n : Int) - (j : Int)).toNat := by rw [enext]; omega
        refine ⟨_, rfl, vIf_mk (fun hne => ?_) (fun he => ?_)⟩
        · have hne2 : ¬ x.1 = y.1 := by simpa using hne
          have hnx : cptN r (i + (j + 1)) = cptN r (i + j) ++ [x] := by
            rw [← Nat.add_assoc, cptN, if_neg, gi, Option.toList_some]
            rintro ⟨_, h'⟩
            rw [gi, gp] at h'
            exact hne2 (Option.some.inj h')
          refine n_rd (tail _ hr1) ti rfl ?_
          refine el_put (enc := encN) hr1.1 (fun _ _ => rfl) hr1.2 (i := k) (by omega) rfl (y := x) rfl (encN_o.one x) (fun u2 hr2 f2 => jnC_mk (hC9 _ _ ⟨hf1.trans1 f2, j + 1, P.set k x, by omega, by omega, by simpa using hPl, ⟨hr2, by simpa using hPl⟩, ?_, ?_, ?_, ?_⟩ hmeas))
          · rw [hnx, List.length_append, hkk]; simp; omega
          · rw [hnx, List.length_append, hkk]
            show (P.set k _).take (k + 1) = _
            rw [List.take_add_one, List.getElem?_set_self (by omega), Option.toList_some, List.take_set_of_le (Nat.le_refl k), htk]
          · rw [hnx, List.length_append, hkk]
            show (P.set k _).drop (k + 1) = r.drop (k + 1)
            rw [List.drop_set_of_lt (by omega)]
            have h3 := congrArg (List.drop 1) hdp
            rw [List.drop_drop, List.drop_drop] at h3
            exact h3
          · rw [hnx, List.length_append, hkk, enext]
            show (_, _, IntKind.wrap .i64 ((k : Int) + 1), _, _, ()) = _
            rw [i64_id (by omega) (by omega)]; rfl
        · have he2 : x.1 = y.1 := by simpa using he
          have hnx : cptN r (i + (j + 1)) = cptN r (i + j) := by
            rw [← Nat.add_assoc, cptN, if_pos ⟨by omega, by rw [gi, gp, Option.map_some, Option.map_some, he2]⟩, List.append_nil]
          exact jnC_mk (hC9 _ _ ⟨hf1, j + 1, P, by omega, by omega, hPl, hr1, by rw [hnx, hkk]; omega, by rw [hnx, hkk]; exact htk, by rw [hnx, hkk]; exact hdp, by rw [hnx, hkk, enext]⟩ hmeas)
      · have hge3 : ¬ (j : Int) < ((n - i : Nat) : Int) := of_decide_eq_false hge
        have hij : i + j = n := by omega
        rw [hij] at hkk htk
        dsimp only
        simp only [Int.toNat_natCast]
        refine gd_mk (decide_eq_true (by omega)) (gd_mk (decide_eq_true (by omega)) (vIf_f (by simp; omega) ?_))
        refine row_clearN hr (by omega) (fun u2 hr2 f2 => jnC_mk (fun _ => ?_))
        refine gd_mk (decide_eq_true (by show (0 : Int) ≤ (k : Int); omega)) (gd_mk (decide_eq_true (by show (k : Int) ≤ (c : Int); omega)) ⟨?_, hf.trans1 (f2.mono (fun q _ hq => by subst hq; rfl)), ?_⟩)
        · show Value.slice (slA (some ⟨b, 0, none⟩) c 0 2) ((k : Int).toNat) c = _
          rw [Int.toNat_natCast, hkk, sl0]
        · rw [hkk]
          rw [htk] at hr2
          exact hr2
    · have hne2 : ¬ x.1 = y.1 := of_decide_eq_false hne
      refine jnC_mk (hC4 _ _ ⟨hf1, hr1, i + 1, by omega, by omega, ?_, ?_⟩ ?_)
      · show (_, _, IntKind.wrap .i64 ((i : Int) + 1), ()) = _
        rw [i64_id (by omega) (by omega)]; rfl
      · rw [cptN, if_neg, hc, List.take_add_one]
        rintro ⟨_, h'⟩
        rw [gi, gp] at h'
        exact hne2 (Option.some.inj h')
      · show ((n : Int) - IntKind.wrap .i64 ((i : Int) + 1)).toNat < ((n : Int) - (i : Int)).toNat
        rw [i64_id (by omega) (by omega)]; omega
  · have hge2 : ¬ (i : Int) < (n : Int) := of_decide_eq_false hge
    exact whole i hi hc (by omega) u hf hr
end Go.Proofs.Ytglojgicnchnpaa
