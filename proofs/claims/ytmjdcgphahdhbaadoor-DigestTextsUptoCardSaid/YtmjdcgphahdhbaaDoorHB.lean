/- chapter 06: there and back -/
import Derived.Test.YtmjdcgphahdhbaaDoorHL
import Derived.Test.YtmjdcgphahdhbaaDoorLDigestR
namespace Go.Proofs.YtmjdcgphahdhbaaDoor
open Go.GV Go.RowKit Go.Lib
set_option linter.unusedVariables false
set_option linter.unusedSimpArgs false
theorem read_enc {d : List UInt8} (h : d.length = 32) : readD (kindB ++ enc d) = some d := by
  have e7 : kindB.length = 7 := rfl
  have h1 : (kindB ++ enc d).take 7 = kindB := by rw [List.take_append_of_le_length (by rw [e7]; omega), List.take_of_length_le (by rw [e7]; omega)]
  have h2 : (kindB ++ enc d).drop 7 = enc d := by
    rw [List.drop_append, List.drop_eq_nil_of_le (by rw [e7]; omega), List.nil_append]; rfl
  unfold readD
  rw [h1, h2, if_pos ⟨rfl, enc_ok d, by rw [List.length_append, e7, enc_length, h]⟩, dec_enc]
theorem enc_read {l d : List UInt8} (h : readD l = some d) : kindB ++ enc d = l := by
  unfold readD at h
  split at h
  · rename_i hc
    injection h with h
    subst h
    rw [enc_dec _ hc.2.1, ← hc.1, List.take_append_drop]
  · cases h
def valD (o : Option (List UInt8)) : List UInt8 := o.getD zeroD
theorem valD_len {l : List UInt8} : (valD (readD l)).length = 32 := by
  unfold valD
  cases h : readD l with
  | none => rfl
  | some d => exact readD_len h
theorem readV_eq (l : List UInt8) : readV l = .tuple #[ofL ((valD (readD l)).map bv), .int .i64 (if (readD l).isSome then 0 else 3)] := by
  unfold readV valD
  cases readD l <;> rfl
theorem back_law (d : List UInt8) (s : ByteArray) (w : World) (hd : d.length = 32) (hs : s.size ≤ 1099511627776) (hK : KAt w) :
    Calls Tryd.prog 5 #[ofL (d.map bv), .string s] w fun e w' => e = .returned (.bool true) ∧ Fr (fun _ => False) w w' := by
  refine (F5.of (d.map bv) s w (Q := fun v w' => v = .bool true ∧ Fr (fun _ => False) w w') ?_).mono (fun e w' ⟨v, he, hv, h⟩ => ⟨by rw [he, hv], h⟩)
  have hZd : Z23.length = 32 := by decide +kernel
  refine nw_mk ?_
  have f1 : Fr (fun _ => False) w (w.alloc (.cells (d.map bv).toArray 23)) := Fr.alloc _ _ _
  have r1 : RecAt (w.alloc (.cells (d.map bv).toArray 23)) w.heap.size 23 (d.map bv) := RecAt.new w _ _
  have hs1 : (w.alloc (.cells (d.map bv).toArray 23)).heap.size = w.heap.size + 1 := alloc_size _ _
  generalize w.alloc (.cells (d.map bv).toArray 23) = w1 at f1 r1 hs1 ⊢
  have cell : ∀ {l : List UInt8} {u : World} {g : Nat} {ty : TypeId}, RecAt u g ty (l.map bv) → cellsAt u g 0 (l.map bv) := fun r => r.cells (o := 0) (fun q v hq => by simpa using hq)
  have ld : (d.map bv).length = 32 := by simp [hd]
  refine ⟨_, ld, cell r1, (dtext_calls d w1 hd).mono ?_⟩
  rintro e w2 ⟨rfl, f2⟩
  have hsz : (⟨(kindB ++ enc d).toArray⟩ : ByteArray).size ≤ 1099511627776 := by
    show (kindB ++ enc d).toArray.size ≤ _
    rw [List.size_toArray, List.length_append, enc_length, hd]; decide
  refine ⟨_, rfl, (dread_calls _ w2 hsz).mono ?_⟩
  rintro e w3 ⟨rfl, f3⟩
  have e1 : readV (⟨(kindB ++ enc d).toArray⟩ : ByteArray).data.toList = .tuple #[ofL (d.map bv), .int .i64 0] := by
    show readV (kindB ++ enc d) = _
    unfold readV
    rw [read_enc hd]
  rw [e1]
  refine ⟨_, _, rfl, nw_mk (gd_mk (by rw [ld]; rfl) ?_)⟩
  have f4 : Fr (fun _ => False) w3 (w3.alloc (.cells Z23.toArray 23)) := Fr.alloc _ _ _
  have r4 : RecAt (w3.alloc (.cells Z23.toArray 23)) w3.heap.size 23 Z23 := RecAt.new w3 _ _
  have hs4 : (w3.alloc (.cells Z23.toArray 23)).heap.size = w3.heap.size + 1 := alloc_size _ _
  generalize w3.alloc (.cells Z23.toArray 23) = w4 at f4 r4 hs4 ⊢
  refine r4.st_mk (o := 0) (by rw [ld, hZd]; omega) (bvs_one _) (fun r5 f5 => ?_)
  rw [splice_whole (by rw [ld, hZd])] at r5
  have hs5 : (stB w4 w3.heap.size 0 (d.map bv)).heap.size = w4.heap.size := stB_size _ _ _ _
  generalize stB w4 w3.heap.size 0 (d.map bv) = w5 at r5 f5 hs5 ⊢
  have f13 := f2.trans1 f3
  have hf13 := f13.size
  have f15 : Fr (fun _ => False) w1 w5 := (f13.trans1 f4).trans f5 (fun _ _ h => h) (fun k hk h => by omega)
  refine (dread_calls s w5 hs).mono ?_
  rintro e w6 ⟨rfl, f6⟩
  rw [readV_eq]
  generalize hY : valD (readD s.data.toList) = Y
  have hYl : Y.length = 32 := by rw [← hY]; exact valD_len
  have lY : (Y.map bv).length = 32 := by simp [hYl]
  refine ⟨_, _, rfl, nw_mk (gd_mk (by rw [lY]; rfl) ?_)⟩
  have f7 : Fr (fun _ => False) w6 (w6.alloc (.cells Z23.toArray 23)) := Fr.alloc _ _ _
  have r7 : RecAt (w6.alloc (.cells Z23.toArray 23)) w6.heap.size 23 Z23 := RecAt.new w6 _ _
  have hs7 : (w6.alloc (.cells Z23.toArray 23)).heap.size = w6.heap.size + 1 := alloc_size _ _
  generalize w6.alloc (.cells Z23.toArray 23) = w7 at f7 r7 hs7 ⊢
  refine r7.st_mk (o := 0) (by rw [lY, hZd]; omega) (bvs_one _) (fun r8 f8 => ?_)
  rw [splice_whole (by rw [lY, hZd])] at r8
  generalize stB w7 w6.heap.size 0 (Y.map bv) = w8 at r8 f8 ⊢
  have hf6 := f6.size
  have hf7 := f7.size
  have f68 : Fr (fun _ => False) w6 w8 := f7.trans f8 (fun _ _ h => h) (fun k hk h => by omega)
  have f58 : Fr (fun _ => False) w5 w8 := f6.trans1 f68
  have f08 : Fr (fun _ => False) w w8 := f1.trans1 (f15.trans1 f58)
  refine vIf_t rfl ⟨_, ld, cell (r5.fr f58 (fun h => h)), _, ld, cell ((r1.fr f15 (fun h => h)).fr f58 (fun h => h)), eqAB_bytes hd hd (vIf_t (by simp) ?_)⟩
  have live : ∀ u, Fr (fun _ => False) w u → Calls Tryd.prog 9 #[] u fun e w' => ∃ t : Bool, e = .returned (.bool t) ∧ (Value.bool t = .bool true ∧ Fr (fun _ => False) w w') := fun u hu => (lives_calls u (hK.fr hu (fun h => h))).mono (fun e w' ⟨he, hf⟩ => ⟨true, he, rfl, hu.trans1 hf⟩)
  cases hr : readD s.data.toList with
  | some y =>
    have hyY : Y = y := by rw [← hY, hr]; rfl
    subst hyY
    refine vIf_t rfl ⟨_, lY, cell r8, (dtext_calls Y w8 hYl).mono ?_⟩
    rintro e w9 ⟨rfl, f9⟩
    refine ⟨_, rfl, vIf_t ?_ (live _ (f08.trans1 f9))⟩
    rw [ByteArray.toList_eq, ByteArray.toList_eq]
    show (kindB ++ enc Y == s.data.toList) = true
    rw [enc_read hr]
    exact beq_self_eq_true _
  | none =>
    have hyY : Y = zeroD := by rw [← hY, hr]; rfl
    subst hyY
    refine vIf_f rfl (vIf_t rfl ⟨_, lY, cell r8, ?_⟩)
    exact eqAB_bytes (a := zeroD) (b := zeroD) rfl rfl (vIf_t (by simp) (live _ f08))
end Go.Proofs.YtmjdcgphahdhbaaDoor
