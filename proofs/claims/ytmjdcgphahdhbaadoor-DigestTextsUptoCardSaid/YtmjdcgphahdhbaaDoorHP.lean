/- chapter 06: the document's Read and Text; the law of texts -/
import Derived.Test.YtmjdcgphahdhbaaDoorHB
import Derived.Test.YtmjdcgphahdhbaaDoorHO
import Derived.Test.YtmjdcgphahdhbaaDoorLHexR
namespace Go.Proofs.YtmjdcgphahdhbaaDoor
open Go.GV Go.RowKit Go.Lib
set_option linter.unusedVariables false
set_option linter.unusedSimpArgs false
theorem rdtext_calls (d : List UInt8) (w : World) (hd : d.length = 32) :
    Calls Tryd.prog 15 #[ofL (d.map bv)] w fun e w' => e = .returned (.string ⟨(kindB ++ enc d).toArray⟩) ∧ Fr (fun _ => False) w w' := by
  refine (F15.of (d.map bv) w (Q := fun v w' => v = .string ⟨(kindB ++ enc d).toArray⟩ ∧ Fr (fun _ => False) w w') ?_).mono (fun e w' ⟨v, he, hv, h⟩ => ⟨by rw [he, hv], h⟩)
  refine nw_mk ?_
  have f1 : Fr (fun _ => False) w (w.alloc (.cells (d.map bv).toArray 23)) := Fr.alloc _ _ _
  have r1 : RecAt (w.alloc (.cells (d.map bv).toArray 23)) w.heap.size 23 (d.map bv) := RecAt.new w _ _
  generalize w.alloc (.cells (d.map bv).toArray 23) = w1 at f1 r1 ⊢
  have hs : Sl w1 1 (some ⟨w.heap.size, 0, none⟩) 32 (d.map bv) := ⟨by simp [hd], fun _ => ⟨_, 0, rfl, r1.cells (o := 0) (fun q v hq => by simpa using hq)⟩⟩
  refine (rtext_calls _ 32 32 d w1 hs (by omega)).mono ?_
  rintro e w2 ⟨rfl, f2⟩
  have he : (⟨(enc d).toArray⟩ : ByteArray).size = 64 := by
    show (enc d).toArray.size = 64
    rw [List.size_toArray, enc_length, hd]
  refine ⟨_, rfl, gd_mk (decide_eq_true ?_) ⟨?_, f1.trans1 f2⟩⟩
  · rw [he]; decide
  · congr 1
theorem rdread_calls (s : ByteArray) (w : World) (hs : s.size ≤ 1099511627776) : Calls Tryd.prog 11 #[.string s] w fun e w' => e = .returned (readV s.data.toList) ∧ Fr (fun _ => False) w w' := by
  refine (F11.of s w (Q := fun v w' => v = readV s.data.toList ∧ Fr (fun _ => False) w w') ?_).mono (fun e w' ⟨v, he, hv, h⟩ => ⟨by rw [he, hv], h⟩)
  have hZd : Z23.length = 32 := by decide +kernel
  have hZz : Z23 = zeroD.map bv := by rfl
  have hZr : Z23 = List.replicate 32 (.int .u8 0) := by rfl
  have hsl := size_l s
  refine nw_mk (nw_mk ?_)
  have f1 : Fr (fun _ => False) w (w.alloc (.cells Z23.toArray 23)) := Fr.alloc _ _ _
  have r1 : RecAt (w.alloc (.cells Z23.toArray 23)) w.heap.size 23 Z23 := RecAt.new w _ _
  have hs1 : (w.alloc (.cells Z23.toArray 23)).heap.size = w.heap.size + 1 := alloc_size _ _
  generalize w.alloc (.cells Z23.toArray 23) = w1 at f1 r1 hs1 ⊢
  have f2 : Fr (fun _ => False) w1 (w1.alloc (.cells Z23.toArray 23)) := Fr.alloc _ _ _
  have r2 : RecAt (w1.alloc (.cells Z23.toArray 23)) w1.heap.size 23 Z23 := RecAt.new w1 _ _
  have r12 := r1.fr f2 (fun h => h)
  have f12 := f1.trans1 f2
  have hs2 : (w1.alloc (.cells Z23.toArray 23)).heap.size = w1.heap.size + 1 := alloc_size _ _
  generalize w1.alloc (.cells Z23.toArray 23) = w2 at f2 r2 r12 f12 hs2 ⊢
  generalize hb1 : w.heap.size = b1 at *
  generalize hb3 : w1.heap.size = b3 at *
  -- zeros, and an error
  have bad : ∀ (u : World) (K : List Value → World → Prop), Fr (fun _ => False) w2 u → (∀ u', Fr (fun _ => False) w u' → K (zeroD.map bv) u') → ldA 32 u b3 0 fun a5 => gd (a5.length == 32) (st u b1 0 a5 fun w6 => ldA 32 w6 b1 0 fun a7 => K a7 w6) := by
    intro u K fu hK
    refine ⟨zeroD.map bv, rfl, ((hZz ▸ r2).fr fu (fun h => h)).cells (o := 0) (fun q v hq => by rw [Nat.zero_add]; exact hq), gd_mk rfl ?_⟩
    refine (r12.fr fu (fun h => h)).st_mk (o := 0) (by rw [hZd]; decide) (bvs_one _) (fun r f => ?_)
    rw [splice_whole (by rw [hZd]; rfl)] at r
    exact ⟨zeroD.map bv, rfl, r.cells (o := 0) (fun q v hq => by rw [Nat.zero_add]; exact hq), hK _ ((f12.trans1 fu).trans f (fun _ _ h => h) (fun k hk h => by omega))⟩
  have badQ : readD s.data.toList = none → ∀ u, Fr (fun _ => False) w2 u → ldA 32 u b3 0 fun a5 => gd (a5.length == 32) (st u b1 0 a5 fun w6 => ldA 32 w6 b1 0 fun a7 => (Value.tuple #[ofL a7, .int .i64 3] = readV s.data.toList ∧ Fr (fun _ => False) w w6)) := by
    intro hn u fu
    refine bad u _ fu (fun u' fu' => ⟨?_, fu'⟩)
    unfold readV
    rw [hn]
  refine vIf_mk (fun h71 => ?_) (fun h71 => ?_)
  · refine jnC_mk (fun _ => vIf_t rfl (badQ ?_ w2 (Fr.refl _ _)))
    unfold readD
    rw [if_neg]
    rintro ⟨_, _, h⟩
    have : (s.size : Int) ≠ 71 := by simpa using h71
    omega
  have h71 : (s.size : Int) = 71 := by simpa using h71
  refine gd_mk (decide_eq_true (by omega)) (jnC_mk (fun _ => ?_))
  have e7 : (s.extract 0 7).data.toList = s.data.toList.take 7 := by rw [ext_list, List.drop_zero, Nat.sub_zero]
  refine vIf_mk (fun hp => badQ ?_ w2 (Fr.refl _ _)) (fun hp => ?_)
  · unfold readD
    rw [if_neg]
    rintro ⟨h, _, _⟩
    have hp : (!((s.extract 0 7).toList == (⟨#[115, 104, 97, 50, 53, 54, 58]⟩ : ByteArray).toList)) = true := hp
    rw [ByteArray.toList_eq, ByteArray.toList_eq, e7, h] at hp
    have : (kindB == (⟨#[115, 104, 97, 50, 53, 54, 58]⟩ : ByteArray).data.toList) = true := rfl
    rw [this] at hp
    cases hp
  have hp : s.data.toList.take 7 = kindB := by
    have hp : (!((s.extract 0 7).toList == (⟨#[115, 104, 97, 50, 53, 54, 58]⟩ : ByteArray).toList)) = false := hp
    rw [ByteArray.toList_eq, ByteArray.toList_eq, e7] at hp
    have hq : s.data.toList.take 7 = [115, 104, 97, 50, 53, 54, 58] := by simpa using hp
    exact hq
  refine jnC_mk (fun _ => gd_mk (decide_eq_true (by show (7 : Int) ≤ (s.size : Nat); omega)) ?_)
  have e64 : (s.extract 7 s.size).data.toList = s.data.toList.drop 7 := by rw [ext_list, List.take_of_length_le (by rw [List.length_drop]; omega)]
  have hsz : (s.extract 7 s.size).size = 64 := by rw [size_l, e64, List.length_drop]; omega
  refine (rread_calls (s.extract 7 s.size) w2 (by omega)).mono ?_
  rintro e w3 ⟨v, rfl, f3, A, n, c, r, rfl, hr⟩
  rw [e64] at hr
  rcases hr with ⟨hok, rfl, hrow⟩ | ⟨hok, rfl, rfl, rfl, rfl⟩
  · refine ⟨_, _, _, _, rfl, vIf_f rfl (jnC_mk ?_)⟩
    have hdl : (dec (s.data.toList.drop 7)).length = 32 := by rw [dec_length, List.length_drop]; omega
    have hn32 : n = 32 := by have := hrow.len; simp at this; omega
    subst hn32
    have hrd : readV s.data.toList = .tuple #[ofL ((dec (s.data.toList.drop 7)).map bv), .int .i64 0] := by
      unfold readV readD
      rw [if_pos ⟨hp, hok, by omega⟩]
    rw [hrd]
    generalize dec (s.data.toList.drop 7) = D at hrow hdl ⊢
    have hw2 := f3.size
    refine loop_rule (fun p u => Fr (fun _ => False) w u ∧ RecAt u b1 23 Z23 ∧ Row u w2.heap.size 5 1 A 32 c (D.map bv) ∧ ∃ i : Nat, i ≤ 32 ∧ p = ((b1, 0), (b3, 0), (A, 32, c), (i : Int), ()) ∧ RecAt u b3 23 ((D.take i).map bv ++ List.replicate (32 - i) (.int .u8 0)))
      (fun p _ => (32 - p.2.2.2.1).toNat) ?_ _ _ ⟨f12.trans1 f3, r12.fr f3 (fun h => h), hrow, 0, by omega, rfl, by have := r2.fr f3 (fun h => h); rw [hZr] at this; exact this⟩
    rintro p u C ⟨hf, hr1, hrw, i, hi, rfl, hr3⟩ hC _
    have hAb : ∀ k, blkOf A = some k → k ≠ b3 := fun k hk => by have := (hrow.blt hk).1; omega
    have ho : (D.take i).length = i := by rw [List.length_take]; omega
    refine vIf_mk (fun hlt => ?_) (fun hge => ?_)
    · have hlt2 : (i : Int) < 32 := of_decide_eq_true hlt
      obtain ⟨g, o, hA, cg⟩ := bget hrw (i := i) (by omega)
      subst hA
      have cg' : cellAt u g (o + (i : Int).toNat * 1) = some (.int .u8 (D.getD i 0).toNat) := by rw [Int.toNat_natCast]; exact cg
      refine dr_mk (gd_mk (decide_eq_true (by show (0 : Int) ≤ (i : Int); omega)) (gd_mk (decide_eq_true (by show (i : Int) < ((32 : Nat) : Int); omega)) ⟨_, cg', gd_mk (decide_eq_true (by show (0 : Int) ≤ (i : Int); omega)) (gd_mk (decide_eq_true hlt2) ?_)⟩))
      rw [Int.toNat_natCast, Nat.mul_one, Nat.zero_add]
      refine hr3.st_mk (by simp [ho]; omega) (bvs_one [_]) (fun r f => jnC_mk (hC _ _ ⟨?_, ?_, ?_, i + 1, by omega, ?_, ?_⟩ ?_))
      · exact hf.trans f (fun _ _ h => h) (fun k hk h' => by omega)
      · exact hr1.fr f (fun h' => by omega)
      · exact f.row hrw (fun k hk => hAb k hk)
      · show (_, _, _, IntKind.wrap .i64 ((i : Int) + 1), ()) = _
        rw [i64_id (by omega) (by omega)]; rfl
      · rw [List.take_add_one, List.getElem?_eq_getElem (by omega), Option.toList_some]
        have hx : D.getD i 0 = D[i]'(by omega) := by rw [List.getD_eq_getElem?_getD, List.getElem?_eq_getElem (by omega)]; rfl
        rw [← bset_next ho (by omega), ← hx]; exact r
      · show (32 - IntKind.wrap .i64 ((i : Int) + 1)).toNat < (32 - (i : Int)).toNat
        rw [i64_id (by omega) (by omega)]; omega
    · have hge2 : ¬ (i : Int) < 32 := of_decide_eq_false hge
      have hi32 : i = 32 := by omega
      subst hi32
      rw [List.take_of_length_le (by omega)] at hr3
      have hl : (D.map bv).length = 32 := by rw [List.length_map, hdl]
      have hrd' : RecAt u b3 23 (D.map bv) := by simpa using hr3
      refine ⟨_, hl, hrd'.cells (o := 0) (fun q v hq => by simpa using hq), gd_mk (by rw [hl]; rfl) ?_⟩
      refine hr1.st_mk (o := 0) (by rw [hl, hZd]; omega) (bvs_one _) (fun r f => ?_)
      rw [splice_whole (by rw [hl, hZd])] at r
      exact ⟨_, hl, r.cells (o := 0) (fun q v hq => by simpa using hq), rfl, hf.trans f (fun _ _ h => h) (fun k hk h => by omega)⟩
  · refine ⟨_, _, _, _, rfl, vIf_t rfl (badQ ?_ w3 f3)⟩
    unfold readD
    rw [if_neg]
    rintro ⟨_, h, _⟩
    rw [hok] at h; cases h
theorem texts_law (A : Option Addr) (n c : Nat) (l : List UInt8) (d : List UInt8) (s : ByteArray) (w : World) (hsl : Sl w 1 A n (l.map bv)) (hlen : l.length ≤ 70368744177664) (hd : d.length = 32) (hs : s.size ≤ 1099511627776) (hK : KAt w) :
    Calls Tryd.prog 4 #[.slice A n c, ofL (d.map bv), .string s] w fun e w' => e = .returned (.bool true) ∧ Fr (fun _ => False) w w' := by
  refine (F4.of A n c (d.map bv) s w (Q := fun v w' => v = .bool true ∧ Fr (fun _ => False) w w') ?_).mono (fun e w' ⟨v, he, hv, h⟩ => ⟨by rw [he, hv], h⟩)
  have hZd : Z23.length = 32 := by decide +kernel
  have cell : ∀ {l : List UInt8} {u : World} {g : Nat} {ty : TypeId}, RecAt u g ty (l.map bv) → cellsAt u g 0 (l.map bv) := fun r => r.cells (o := 0) (fun q v hq => by simpa using hq)
  have ld : (d.map bv).length = 32 := by simp [hd]
  have hYl : (valD (readD s.data.toList)).length = 32 := valD_len
  have hrV := readV_eq s.data.toList
  generalize valD (readD s.data.toList) = Y at hYl hrV
  generalize (if (readD s.data.toList).isSome then 0 else 3 : Int) = E at hrV
  have lY : (Y.map bv).length = 32 := by simp [hYl]
  refine nw_mk ?_
  have f1 : Fr (fun _ => False) w (w.alloc (.cells (d.map bv).toArray 23)) := Fr.alloc _ _ _
  have r1 : RecAt (w.alloc (.cells (d.map bv).toArray 23)) w.heap.size 23 (d.map bv) := RecAt.new w _ _
  have hs1 : (w.alloc (.cells (d.map bv).toArray 23)).heap.size = w.heap.size + 1 := alloc_size _ _
  generalize w.alloc (.cells (d.map bv).toArray 23) = w1 at f1 r1 hs1 ⊢
  refine (dread_calls s w1 hs).mono ?_
  rintro e w2 ⟨rfl, f2⟩
  rw [hrV]
  -- a copy laid in a new digest
  have lay : ∀ (u : World) (K : Nat → World → Prop), (∀ u', Fr (fun _ => False) u u' → RecAt u' u.heap.size 23 (Y.map bv) → K u.heap.size u') → nw u Z23 23 fun b7 w8 => gd ((Y.map bv).length == 32) (st w8 b7 0 (Y.map bv) fun w9 => K b7 w9) := by
    intro u K hK
    refine nw_mk (gd_mk (by rw [lY]; rfl) ?_)
    have g1 : Fr (fun _ => False) u (u.alloc (.cells Z23.toArray 23)) := Fr.alloc _ _ _
    refine (RecAt.new u Z23 23).st_mk (o := 0) (by rw [lY, hZd]; omega) (bvs_one _) (fun r f => ?_)
    rw [splice_whole (by rw [lY, hZd])] at r
    exact hK _ (g1.trans f (fun _ _ h => h) (fun k hk h => by omega)) r
  refine ⟨_, _, rfl, lay w2 _ (fun w3 f3 r3 => (rdread_calls s w3 hs).mono ?_)⟩
  rintro e w4 ⟨rfl, f4⟩
  rw [hrV]
  refine ⟨_, _, rfl, lay w4 _ (fun w5 f5 r5 => ?_)⟩
  have f35 := f4.trans1 f5
  have f05 : Fr (fun _ => False) w w5 := ((f1.trans1 f2).trans1 f3).trans1 f35
  have fd5 : Fr (fun _ => False) w5 w5.drew := Fr.drew _ _
  refine (of_calls A n c l w5.drew ((f05.trans1 fd5).sl hsl (fun _ _ _ h => h)) (hK.fr (f05.trans1 fd5) (fun h => h)) hlen).mono ?_
  rintro e w6 ⟨rfl, f6⟩
  refine ⟨_, rfl, (rsum_calls A n c l w6 (((f05.trans1 fd5).trans1 f6).sl hsl (fun _ _ _ h => h)) hlen).mono ?_⟩
  rintro e w7 ⟨rfl, f7⟩
  have f57 : Fr (fun _ => False) w5 w7 := (fd5.trans1 f6).trans1 f7
  have r17 : RecAt w7 w.heap.size 23 (d.map bv) := RecAt.fr (S := fun _ => False) ((f2.trans1 f3).trans1 (f35.trans1 f57)) r1 (fun h => h)
  have hb17 := r17.lt
  refine ⟨_, rfl, eqAB_bytes (shaP_len l) (shaP_len l) (vIf_t (by simp) ⟨_, ld, cell r17, _, ld, cell r17, (dtext_calls d w7 hd).mono ?_⟩)⟩
  rintro e w8 ⟨rfl, f8⟩
  refine ⟨_, rfl, kp_mk f8 hb17 (fun h => h) ((rdtext_calls d w8 hd).mono ?_)⟩
  rintro e w9 ⟨rfl, f9⟩
  have f59 := f57.trans1 (f8.trans1 f9)
  refine ⟨_, rfl, vIf_t (beq_self_eq_true _) ⟨_, lY, cell (r3.fr (f35.trans1 f59) (fun h => h)), _, lY, cell (r5.fr f59 (fun h => h)), eqAB_bytes hYl hYl (vIf_t (by simp) (vIf_t (by simp) ?_))⟩⟩
  refine (lives_calls w9 (hK.fr (f05.trans1 f59) (fun h => h))).mono ?_
  rintro e w10 ⟨rfl, f10⟩
  exact ⟨_, rfl, rfl, (f05.trans1 f59).trans1 f10⟩
end Go.Proofs.YtmjdcgphahdhbaaDoor
