/- hex: what each function of the program answers -/
import Derived.Test.YtmjdcgphahdhbaaDoorLBuilder
import Derived.Laws.RangeString
import Derived.Laws.RangeAny
namespace Go.Proofs.YtmjdcgphahdhbaaDoor
open Go.GV Go.RowKit
set_option linter.unusedVariables false
/-! ### plain words -/
def figC (n : Nat) : UInt8 := if n < 10 then UInt8.ofNat (48 + n) else UInt8.ofNat (87 + n)
def isFig (c : UInt8) : Bool := decide (48 ≤ c.toNat ∧ c.toNat ≤ 57) || decide (97 ≤ c.toNat ∧ c.toNat ≤ 102)
def figV (c : UInt8) : Nat := if c.toNat ≤ 57 then c.toNat - 48 else c.toNat - 87
def enc : List UInt8 → List UInt8
  | [] => []
  | b :: r => figC (b.toNat / 16) :: figC (b.toNat % 16) :: enc r
def dec : List UInt8 → List UInt8
  | a :: b :: r => UInt8.ofNat (figV a * 16 + figV b) :: dec r
  | _ => []
def okHex (l : List UInt8) : Bool := decide (l.length % 2 = 0) && l.all isFig
theorem figC_v : ∀ n : Fin 16, isFig (figC n.val) = true ∧ figV (figC n.val) = n.val ∧ (figC n.val).toNat < 128 := by decide +kernel
theorem figV_c : ∀ c : UInt8, isFig c = true → figV c < 16 ∧ figC (figV c) = c ∧ c.toNat < 128 := by
  intro c h
  have : ∀ n : Fin 256, isFig (UInt8.ofNat n.val) = true → figV (UInt8.ofNat n.val) < 16 ∧ figC (figV (UInt8.ofNat n.val)) = UInt8.ofNat n.val ∧ (UInt8.ofNat n.val).toNat < 128 := by decide +kernel
  have h2 := this ⟨c.toNat, c.toNat_lt⟩
  simp only [UInt8.ofNat_toNat] at h2
  exact h2 h
theorem enc_length : ∀ l : List UInt8, (enc l).length = 2 * l.length
  | [] => rfl
  | b :: r => by simp [enc, enc_length r]; omega
theorem enc_append : ∀ a b : List UInt8, enc (a ++ b) = enc a ++ enc b
  | [], b => rfl
  | x :: a, b => by simp [enc, enc_append a b]
theorem enc_ok : ∀ l : List UInt8, okHex (enc l) = true
  | [] => rfl
  | b :: r => by
    have h := enc_ok r
    have hb := b.toNat_lt
    simp only [okHex, enc, List.length_cons, List.all_cons, Bool.and_eq_true, decide_eq_true_eq] at h ⊢
    have h1 := h.1
    exact ⟨decide_eq_true (by omega), (figC_v ⟨b.toNat / 16, by omega⟩).1, (figC_v ⟨b.toNat % 16, by omega⟩).1, h.2⟩
theorem dec_enc : ∀ l : List UInt8, dec (enc l) = l
  | [] => rfl
  | b :: r => by
    have hb := b.toNat_lt
    have h1 := (figC_v ⟨b.toNat / 16, by omega⟩).2.1
    have h2 := (figC_v ⟨b.toNat % 16, by omega⟩).2.1
    simp only at h1 h2
    simp only [enc, dec, dec_enc r, h1, h2]
    congr 1
    rw [show b.toNat / 16 * 16 + b.toNat % 16 = b.toNat by omega]
    exact UInt8.ofNat_toNat
theorem enc_dec : ∀ l : List UInt8, okHex l = true → enc (dec l) = l
  | [], _ => rfl
  | [a], h => by simp [okHex] at h
  | a :: b :: r, h => by
    simp only [okHex, List.length_cons, List.all_cons, Bool.and_eq_true, decide_eq_true_eq] at h
    obtain ⟨a1, a2, _⟩ := figV_c a h.2.1
    obtain ⟨b1, b2, _⟩ := figV_c b h.2.2.1
    have hr : okHex r = true := by simp only [okHex, Bool.and_eq_true, decide_eq_true_eq]; exact ⟨by omega, h.2.2.2⟩
    have e : (UInt8.ofNat (figV a * 16 + figV b)).toNat = figV a * 16 + figV b := by simp; omega
    simp only [dec, enc, enc_dec r hr, e]
    rw [show (figV a * 16 + figV b) / 16 = figV a by omega, show (figV a * 16 + figV b) % 16 = figV b by omega, a2, b2]
theorem dec_append : ∀ (l : List UInt8) (a b : UInt8), l.length % 2 = 0 → dec (l ++ [a, b]) = dec l ++ [UInt8.ofNat (figV a * 16 + figV b)]
  | [], a, b, _ => rfl
  | [x], a, b, h => by simp at h
  | x :: y :: r, a, b, h => by
    simp only [List.cons_append, dec, dec_append r a b (by simp only [List.length_cons] at h; omega)]
theorem dec_odd : ∀ (l : List UInt8) (a : UInt8), l.length % 2 = 0 → dec (l ++ [a]) = dec l
  | [], a, _ => rfl
  | [x], a, h => by simp at h
  | x :: y :: r, a, h => by
    simp only [List.cons_append, dec, dec_odd r a (by simp only [List.length_cons] at h; omega)]
/-! ### figure -/
def figOf (x : Int) : Int × Bool := if 48 ≤ x ∧ x ≤ 57 then (x - 48, true) else if 97 ≤ x ∧ x ≤ 102 then (x - 87, true) else (0, false)
def FS : ByteArray := ⟨#[48, 49, 50, 51, 52, 53, 54, 55, 56, 57, 97, 98, 99, 100, 101, 102]⟩
theorem fs_decode : ∀ p : Fin 16, Utf8.decode FS p.val = (if p.val < 10 then 48 + p.val else 87 + p.val, 1) := by decide +kernel
theorem figure_calls (x : Int) (w : World) : Calls Tryd.prog 37 #[.int .i32 x] w fun e w' => e = .returned (.tuple #[.int .u8 (figOf x).1, .bool (figOf x).2]) ∧ Fr (fun _ => False) w w' := by
  refine (F37.of x w (Q := fun v w' => v = .tuple #[.int .u8 (figOf x).1, .bool (figOf x).2] ∧ Fr (fun _ => False) w w') ?_).mono (fun e w' ⟨v, he, hv, h⟩ => ⟨by rw [he, hv], h⟩)
  refine itr_mk (jnC_mk ?_)
  refine loop_rule (fun s u => s = (x, (w.heap.size, 0), ()) ∧ Fr (fun _ => False) w u ∧ ∃ p : Nat, p ≤ 16 ∧ u.heap[w.heap.size]? = some (.stringIter FS p) ∧ ∀ i : Nat, i < p → ((if i < 10 then 48 + i else 87 + i : Nat) : Int) ≠ x)
    (fun s u => itM u w.heap.size) ?_ _ _ ⟨rfl, Fr.alloc _ _ _, 0, by omega, heap_alloc_at _ _, fun i hi => by omega⟩
  rintro s u C ⟨rfl, hf, p, hp, hh, hne⟩ hC _
  refine gd_mk rfl (nxt_mk hh (fun hlt => ?_) (fun hge => ?_))
  · have hp16 : p < 16 := hlt
    have hd := fs_decode ⟨p, hp16⟩
    simp only at hd
    rw [hd]
    refine vIf_mk (fun h => ⟨?_, ?_⟩) (fun h => ?_)
    · have h : ((if p < 10 then 48 + p else 87 + p : Nat) : Int) = x := of_decide_eq_true h
      have : figOf x = ((p : Int), true) := by
        rw [← h]
        unfold figOf
        by_cases h10 : p < 10
        · simp only [h10, if_true]; rw [if_pos (by omega)]; congr 1; omega
        · simp only [h10, if_false]; rw [if_neg (by omega), if_pos (by omega)]; congr 1; omega
      rw [this, u8_id (by omega) (by omega)]
    · exact hf.trans (Fr.it (S := fun k => k = w.heap.size) (fun _ => rfl)) (fun _ _ h => h) (fun k hk h => by omega)
    · refine hC _ _ ⟨rfl, hf.trans (Fr.it (S := fun k => k = w.heap.size) (fun _ => rfl)) (fun _ _ h => h) (fun k hk h => by omega), p + 1, by omega, ?_, fun i hi => ?_⟩ ?_
      · rw [itW_heap (heap_lt hh)]
      · by_cases hip : i = p
        · subst hip; exact of_decide_eq_false h
        · exact hne i (by omega)
      · simp only [itM, itW_heap (heap_lt hh), hh]
        have : FS.size = 16 := rfl
        omega
  · have hp16 : p = 16 := by have : FS.size = 16 := rfl; omega
    subst hp16
    refine ⟨?_, hf⟩
    have : figOf x = (0, false) := by
      unfold figOf
      rw [if_neg ?_, if_neg ?_]
      · intro h
        have := hne (x - 87).toNat (by omega)
        rw [if_neg (by omega)] at this
        omega
      · intro h
        have := hne (x - 48).toNat (by omega)
        rw [if_pos (by omega)] at this
        omega
    rw [this]
/-! ### Text -/
theorem fs_byte : ∀ k : Fin 16, byteAt FS k.val = ((figC k.val).toNat : Int) := by decide +kernel
theorem and15 : ∀ b : Fin 256, iAnd .u8 (b.val : Int) 15 = ((b.val % 16 : Nat) : Int) := by decide +kernel
theorem shr4 (n : Nat) : Int.fdiv (n : Int) (2 ^ 4) = ((n / 16 : Nat) : Int) := by
  rw [show (2 ^ 4 : Int) = ((16 : Nat) : Int) from rfl, Int.fdiv_eq_ediv_of_nonneg _ (by omega)]; rfl
theorem text_calls (A : Option Addr) (n c : Nat) (l : List UInt8) (w : World) (h : Sl w 1 A n (l.map bv)) (hn : n ≤ 1099511627776) :
    Calls Tryd.prog 28 #[.slice A n c] w fun e w' => e = .returned (.string ⟨(enc l).toArray⟩) ∧ Fr (fun _ => False) w w' := by
  have hl : l.length = n := by simpa using h.1
  have hA : ∀ b, n ≠ 0 → blkOf A = some b → b < w.heap.size := fun b h0 hb => h.blt (by decide) h0 hb
  refine (F28.of A n c w (Q := fun v w' => v = .string ⟨(enc l).toArray⟩ ∧ Fr (fun _ => False) w w') ?_).mono (fun e w' ⟨v, he, hv, h⟩ => ⟨by rw [he, hv], h⟩)
  refine nw_mk (jnC_mk ?_)
  have f0 : Fr (fun k => w.heap.size ≤ k) w (w.alloc (.cells #[.pointer none, .slice none 0 0] 71)) := Fr.alloc _ _ _
  refine loop_rule (fun s u => Fr (fun k => w.heap.size ≤ k) w u ∧ w.heap.size ≤ u.heap.size ∧ ∃ i : Nat, i ≤ n ∧ s = ((w.heap.size, 0), (A, n, c), (n : Int), (i : Int), ()) ∧ Lib.IsBuilderF 71 5 w.heap.size w.heap.size ((enc (l.take i)).map bv) u)
    (fun s _ => (n - s.2.2.2.1).toNat) ?_ _ _ ⟨f0, f0.size, 0, by omega, rfl, Lib.IsBuilderF.of (Lib.fresh_isBuilder 71 5 w)⟩
  rintro s u C ⟨hf, hsz, i, hi, rfl, hb⟩ hC _
  have up : ∀ {u' : World}, Fr (fun k => w.heap.size ≤ k) w u' → Fr (fun _ => False) w u' := fun hf => hf.mono (fun k hk hs => by omega)
  have elen : (enc (l.take i)).length = 2 * i := by rw [enc_length, List.length_take]; omega
  refine vIf_mk (fun hlt => ?_) (fun hge => ?_)
  · have hlt2 : (i : Int) < n := of_decide_eq_true hlt
    have e1 : l[i]? = some (l[i]'(by omega)) := List.getElem?_eq_getElem (by omega)
    generalize hx : l[i]'(by omega) = x at e1
    obtain ⟨b, o, hA', hc⟩ := ((up hf).sl h (fun _ _ _ h => h)).get (i := i) (by omega) (v := bv x) (by rw [List.getElem?_map, e1]; rfl)
    subst hA'
    have hx8 := x.toNat_lt
    refine dr_mk (gd_mk (decide_eq_true (Int.natCast_nonneg i)) (gd_mk (decide_eq_true hlt2) ⟨_, hc, ?_⟩))
    have hd4 := shr4 x.toNat
    have ha := and15 ⟨x.toNat, by omega⟩
    simp only at ha
    have hfs : (FS.size : Int) = 16 := rfl
    show gd _ _
    refine gd_mk (decide_eq_true (by rw [hd4]; omega)) (gd_mk (decide_eq_true (by rw [hd4]; show _ < (FS.size : Int); omega)) ?_)
    have b1 := fs_byte ⟨x.toNat / 16, by omega⟩
    have b2 := fs_byte ⟨x.toNat % 16, by omega⟩
    simp only at b1 b2
    have t1 : byteAt FS (Int.fdiv (x.toNat : Int) (2 ^ 4)).toNat = ((figC (x.toNat / 16)).toNat : Int) := by rw [hd4, Int.toNat_natCast, b1]
    have t2 : byteAt FS (iAnd .u8 (x.toNat : Int) 15).toNat = ((figC (x.toNat % 16)).toNat : Int) := by rw [ha, Int.toNat_natCast, b2]
    show Calls Tryd.prog 44 #[.pointer (some ⟨w.heap.size, 0, none⟩), .int .u8 (byteAt FS (Int.fdiv (x.toNat : Int) (2 ^ 4)).toNat)] u _
    rw [t1]
    refine (writeByte w.heap.size w.heap.size _ (figC (x.toNat / 16)) u hb (by rw [List.length_map, elen]; omega) hsz).mono ?_
    rintro e w1 ⟨rfl, hb1, f1⟩
    refine ⟨_, rfl, ?_⟩
    have hf1 := hf.trans1 f1
    refine gd_mk (decide_eq_true (by show 0 ≤ iAnd .u8 (x.toNat : Int) 15; rw [ha]; omega)) (gd_mk (decide_eq_true (by show iAnd .u8 (x.toNat : Int) 15 < (FS.size : Int); rw [ha]; omega)) ?_)
    show Calls Tryd.prog 44 #[.pointer (some ⟨w.heap.size, 0, none⟩), .int .u8 (byteAt FS (iAnd .u8 (x.toNat : Int) 15).toNat)] w1 _
    rw [t2]
    refine (writeByte w.heap.size w.heap.size _ (figC (x.toNat % 16)) w1 hb1 (by simp only [List.length_append, List.length_map, elen, List.length_cons, List.length_nil]; omega) hf1.size).mono ?_
    rintro e w2 ⟨rfl, hb2, f2⟩
    refine ⟨_, rfl, jnC_mk (hC _ _ ⟨hf1.trans1 f2, (hf1.trans1 f2).size, i + 1, by omega, ?_, ?_⟩ ?_)⟩
    · show ((_, 0), (_, n, c), (n : Int), IntKind.wrap .i64 ((i : Int) + 1), ()) = _
      rw [i64_id (by omega) (by omega)]; rfl
    · have : l.take (i + 1) = l.take i ++ [x] := by rw [List.take_add_one, e1]; rfl
      rw [this, enc_append]
      have e2 : (enc [x]) = [figC (x.toNat / 16), figC (x.toNat % 16)] := rfl
      rw [e2]
      simpa using hb2
    · show ((n : Int) - IntKind.wrap .i64 ((i : Int) + 1)).toNat < ((n : Int) - i).toNat
      rw [i64_id (by omega) (by omega)]; omega
  · have hge2 : ¬ ((i : Int) < n) := of_decide_eq_false hge
    have hin : i = n := by omega
    rw [List.take_of_length_le (by omega)] at hb
    refine (Tryd.Builder_String_any_k w.heap.size w.heap.size (enc l) u hb hsz).mono ?_
    rintro e w' ⟨rfl, _, hbl, _⟩
    exact ⟨_, rfl, rfl, up (hf.trans1 (Fr.of_below hbl (fun k _ h => h)))⟩
/-! ### Read, and the document's -/
def ReadAns (l : List UInt8) (w w' : World) (v : Value) : Prop := Fr (fun _ => False) w w' ∧ ∃ A n c r, v = .tuple #[.slice A n c, .int .i64 r] ∧
  ((okHex l = true ∧ r = 0 ∧ Row w' w.heap.size 5 1 A n c ((dec l).map bv)) ∨ (okHex l = false ∧ r = 3 ∧ A = none ∧ n = 0 ∧ c = 0))
theorem byteAt_l {s : ByteArray} {i : Nat} {x : UInt8} (h : s.data.toList[i]? = some x) : byteAt s i = (x.toNat : Int) := by
  unfold byteAt
  rw [List.getD_eq_getElem?_getD, h]; rfl
theorem size_l (s : ByteArray) : s.size = s.data.toList.length := by rw [Array.length_toList]; rfl
theorem not_ok_at {l : List UInt8} {i : Nat} {x : UInt8} (h : l[i]? = some x) (hx : isFig x = false) : okHex l = false := by
  have : l.all isFig = false := by
    rw [List.all_eq_false]
    exact ⟨x, List.mem_of_getElem? h, by simp [hx]⟩
  simp [okHex, this]
theorem hexOr : ∀ a b : Fin 16, iOr .u8 (IntKind.wrap .u8 ((a.val : Int) * 2 ^ 4)) b.val = ((UInt8.ofNat (a.val * 16 + b.val)).toNat : Int) := by decide +kernel
theorem take_two {l : List UInt8} {i : Nat} {x y : UInt8} (hx : l[i]? = some x) (hy : l[i + 1]? = some y) : l.take (i + 2) = l.take i ++ [x, y] := by
  rw [List.take_add_one, List.take_add_one, hx, hy]; simp
theorem all_take {l : List UInt8} {n : Nat} (h : l.length ≤ n) (ha : (l.take n).all isFig = true) : l.all isFig = true := by rwa [List.take_of_length_le h] at ha
theorem figOf_high {r : Nat} (h : 128 ≤ r) : figOf (r : Int) = (0, false) := by
  unfold figOf; rw [if_neg (by omega), if_neg (by omega)]
theorem figOf_byte (x : UInt8) : figOf (x.toNat : Int) = (((if isFig x then figV x else 0 : Nat) : Int), isFig x) := by
  unfold figOf isFig figV
  by_cases h1 : 48 ≤ x.toNat ∧ x.toNat ≤ 57
  · rw [if_pos (by omega)]; simp [h1]; omega
  · rw [if_neg (by omega)]
    by_cases h2 : 97 ≤ x.toNat ∧ x.toNat ≤ 102
    · rw [if_pos (by omega)]; simp [h1, h2]; rw [if_neg (by omega)]; omega
    · rw [if_neg (by omega)]; simp [h1, h2]
theorem getB {s : ByteArray} {l : List UInt8} (hl : s.data.toList = l) {p : Nat} (h : p < s.size) : l[p]? = some (s[p]'h) := by
  subst hl
  rw [Array.getElem?_toList]
  exact Array.getElem?_eq_getElem h
theorem read_calls (s : ByteArray) (w : World) (hs : s.size ≤ 1099511627776) : Calls Tryd.prog 23 #[.string s] w fun e w' => ∃ v, e = .returned v ∧ ReadAns s.data.toList w w' v := by
  generalize hl : s.data.toList = l
  have hsz : s.size = l.length := by rw [size_l, hl]
  refine F23.of s w (Q := fun v w' => ReadAns l w w' v) ?_
  have hd : IntKind.wrap .i64 (Int.tdiv (s.size : Int) 2) = ((s.size / 2 : Nat) : Int) := by
    rw [show Int.tdiv (s.size : Int) 2 = _ from tdiv_nat s.size 2, i64_id (by omega) (by omega)]
  refine gd_mk (decide_eq_true (by rw [hd]; omega)) (gd_mk (decide_eq_true (by rw [hd]; omega)) (nw_mk (itr_mk (jnC_mk ?_))))
  rw [hd, Int.toNat_natCast]
  have r0 : Row (w.alloc (.cells (zeros (s.size / 2) [Value.int .u8 0]).toArray 5)) w.heap.size 5 1 (some ⟨w.heap.size, 0, none⟩) 0 (s.size / 2) [] := Row.made (n := 0) (Nat.le_refl _) rfl (Nat.zero_le _)
  generalize hw1 : w.alloc (.cells (zeros (s.size / 2) [Value.int .u8 0]).toArray 5) = w1 at r0 ⊢
  have f1 : Fr (fun _ => False) w w1 := by rw [← hw1]; exact Fr.alloc _ _ _
  have hw1s : w.heap.size < w1.heap.size := by rw [← hw1, alloc_size]; omega
  refine loop_rule (fun q u => Fr (fun _ => False) w u ∧ ∃ (p : Nat) (R : Option Addr) (rc : Nat) (hi : Int), p ≤ l.length ∧ q = ((R, p / 2, rc), hi, decide (p % 2 = 1), (w1.heap.size, 0), ()) ∧ u.heap[w1.heap.size]? = some (.stringIter s p) ∧
      Row u w.heap.size 5 1 R (p / 2) rc ((dec (l.take p)).map bv) ∧ (l.take p).all isFig = true ∧ (p % 2 = 1 → ∃ x, l[p - 1]? = some x ∧ hi = figV x))
    (fun q u => itM u w1.heap.size) ?_ _ _ ⟨f1.trans1 (Fr.alloc _ _ _), 0, _, _, 0, by omega, rfl, heap_alloc_at _ _, (Fr.alloc (fun _ => False) w1 _).row (by rw [List.take_zero]; exact r0) (fun _ _ h => h), by rw [List.take_zero]; rfl, fun h => by omega⟩
  rintro q u C ⟨hf, p, R, rc, hi, hp, rfl, hh, hr, ha, hx0⟩ hC _
  have hRb : ∀ k, k < w.heap.size → blkOf R = some k → False := fun k hk hb => by have := (hr.blt hb).1; omega
  have hRi : blkOf R = some w1.heap.size → False := fun hb => by
    rcases hr.at_ with ⟨rfl, _⟩ | ⟨g, cs, rfl, _, h6, _⟩
    · cases hb
    · simp only [blkOf, Option.some.injEq] at hb
      subst hb
      rw [hh] at h6
      cases h6
  refine gd_mk rfl (nxt_mk hh (fun hlt => ?_) (fun hge => jnC_mk ?_))
  · have hx := getB hl hlt
    generalize hxe : s[p]'hlt = x at hx
    have stop : isFig x = false → ∀ w', Fr (fun _ => False) w w' → ReadAns l w w' (.tuple #[.slice none 0 0, .int .i64 3]) := fun h w' hf => ⟨hf, none, 0, 0, 3, rfl, .inr ⟨not_ok_at hx h, rfl, rfl, rfl, rfl⟩⟩
    have fit : ∀ m, Fr (fun _ => False) w (itW u w1.heap.size s m) := fun m => hf.trans (Fr.it (S := fun k => k = w1.heap.size) (fun _ => rfl)) (fun _ _ h => h) (fun k hk h => by omega)
    refine (figure_calls _ _).mono ?_
    rintro e w2 ⟨rfl, g2⟩
    have hf2 := (fit _).trans1 g2
    refine ⟨_, _, rfl, ?_⟩
    by_cases hhi : 128 ≤ x.toNat
    · rw [figOf_high (decode_high s p hlt (by rw [hxe]; exact hhi)).1]
      refine vIf_t rfl (stop ?_ _ hf2)
      simp only [isFig, Bool.or_eq_false_iff, decide_eq_false_iff_not]; omega
    · have hdc : Utf8.decode s p = (x.toNat, 1) := by
        have := decode_ascii s p hlt (by rw [hxe]; omega)
        rw [hxe] at this
        exact this
      rw [hdc] at g2 ⊢
      rw [figOf_byte]
      refine vIf_mk (fun hb => stop (by simpa using hb) _ hf2) (fun hb => ?_)
      have hfx : isFig x = true := by simpa using hb
      have hu2 : Fr (fun k => k = w1.heap.size) u w2 := (Fr.it (S := fun k => k = w1.heap.size) (fun _ => rfl)).trans (U := fun k => k = w1.heap.size) g2 (fun _ _ h => h) (fun _ _ h => h.elim)
      have hr2 : Row w2 w.heap.size 5 1 R (p / 2) rc ((dec (l.take p)).map bv) := hu2.row hr (fun b hb hbe => by subst hbe; exact hRi hb)
      have hh2 : w2.heap[w1.heap.size]? = some (.stringIter s (p + 1)) := g2.at (itW_heap (heap_lt hh)) (fun h => h)
      have htk : l.take (p + 1) = l.take p ++ [x] := by rw [List.take_add_one, hx]; rfl
      have hall : (l.take (p + 1)).all isFig = true := by rw [htk, List.all_append, ha]; simp [hfx]
      have tlen : (l.take p).length = p := by rw [List.length_take]; omega
      have hpl : p < l.length := by omega
      refine vIf_mk (fun hodd => ?_) (fun hev => ?_)
      · have hodd2 : p % 2 = 1 := of_decide_eq_true hodd
        obtain ⟨y, hy, hye⟩ := hx0 hodd2
        subst hye
        have hfy : isFig y = true := by
          have : y ∈ l.take p := by
            rw [List.mem_iff_getElem?]
            exact ⟨p - 1, by rw [List.getElem?_take, if_pos (by omega)]; exact hy⟩
          exact (List.all_eq_true.1 ha) y this
        have hval : Value.int .u8 (iOr .u8 (IntKind.wrap .u8 ((figV y : Int) * 2 ^ 4)) (((if isFig x then figV x else 0 : Nat)) : Int)) = bv (UInt8.ofNat (figV y * 16 + figV x)) := by
          rw [if_pos hfx]
          exact congrArg (Value.int .u8) (hexOr ⟨figV y, (figV_c y hfy).1⟩ ⟨figV x, (figV_c x hfx).1⟩)
        refine nw_mk ?_
        simp only [hval, List.append_nil]
        have g4 : Fr (fun _ => False) w2 (w2.alloc (.cells [bv (UInt8.ofNat (figV y * 16 + figV x))].toArray 5)) := Fr.alloc _ _ _
        have hf4 := hf2.trans1 g4
        refine app_row (m := 1) (us := [bv (UInt8.ofNat (figV y * 16 + figV x))]) (g4.row hr2 (fun _ _ h => h)) (Row.new (sz := 1) (n := 1) (B := 0) (Nat.zero_le _) rfl).sl.src (bvs_one [UInt8.ofNat (figV y * 16 + figV x)]) rfl (by show (p / 2 + 1) * 1 ≤ _; omega) (by show p / 2 + 1 ≤ _; omega) hf4.size ?_
        intro R' rc' w5 hr5 f5
        have hsub : l.take p = l.take (p - 1) ++ [y] := by
          have e := List.take_add_one (l := l) (i := p - 1)
          rw [show p - 1 + 1 = p by omega, hy] at e
          exact e
        have hdec : dec (l.take (p + 1)) = dec (l.take p) ++ [UInt8.ofNat (figV y * 16 + figV x)] := by
          have hpe : (l.take (p - 1)).length % 2 = 0 := by rw [List.length_take]; omega
          have e1 : dec (l.take p) = dec (l.take (p - 1)) := by rw [hsub, dec_odd _ _ hpe]
          rw [e1, htk, hsub, List.append_assoc]
          exact dec_append _ _ _ hpe
        have h5i : w5.heap[w1.heap.size]? = some (.stringIter s (p + 1)) := f5.at (g4.at hh2 (fun h => h)) hRi
        refine jnC_mk (hC _ _ ⟨hf4.trans f5 (fun _ _ h => h) (fun k hk h => hRb k hk h), p + 1, R', rc', ((if isFig x then figV x else 0 : Nat) : Int), by omega, ?_, h5i, ?_, hall, fun h => ?_⟩ ?_)
        · have e1 : decide ((p + 1) % 2 = 1) = false := decide_eq_false (by omega)
          have e2 : decide (p % 2 = 1) = true := decide_eq_true hodd2
          rw [e1, show (p + 1) / 2 = p / 2 + 1 by omega]
          show ((R', p / 2 + 1, rc'), _, !decide (p % 2 = 1), _) = _
          rw [e2]; rfl
        · rw [hdec, List.map_append, show (p + 1) / 2 = p / 2 + 1 by omega]
          exact hr5
        · omega
        · simp only [itM, h5i, hh]; omega
      · have hev : p % 2 = 0 := by have : ¬ p % 2 = 1 := of_decide_eq_false hev
                                   omega
        refine jnC_mk (hC _ _ ⟨hf2, p + 1, R, rc, ((if isFig x then figV x else 0 : Nat) : Int), by omega, ?_, hh2, ?_, hall, fun h => ⟨x, by simpa using hx, ?_⟩⟩ ?_)
        · have e1 : decide ((p + 1) % 2 = 1) = true := decide_eq_true (by omega)
          have e2 : decide (p % 2 = 1) = false := decide_eq_false (by omega)
          rw [e1, show (p + 1) / 2 = p / 2 by omega]
          show ((R, p / 2, rc), _, !decide (p % 2 = 1), _) = _
          rw [e2]; rfl
        · rw [htk, dec_odd _ _ (by rw [tlen]; exact hev), show (p + 1) / 2 = p / 2 by omega]
          exact hr2
        · rw [if_pos hfx]
        · simp only [itM, hh2, hh]; omega
  · have hln : l.length ≤ p := by omega
    rw [List.take_of_length_le hln] at hr ha
    intro _
    refine vIf_mk (fun hodd => ?_) (fun hev => ?_)
    · have hodd : p % 2 = 1 := of_decide_eq_true hodd
      refine ⟨hf, none, 0, 0, 3, rfl, .inr ⟨?_, rfl, rfl, rfl, rfl⟩⟩
      simp only [okHex, Bool.and_eq_false_iff, decide_eq_false_iff_not]
      left; omega
    · have hev : ¬ p % 2 = 1 := of_decide_eq_false hev
      refine ⟨hf, R, p / 2, rc, 0, rfl, .inl ⟨?_, rfl, hr⟩⟩
      simp only [okHex, Bool.and_eq_true, decide_eq_true_eq]
      exact ⟨by omega, ha⟩
end Go.Proofs.YtmjdcgphahdhbaaDoor
