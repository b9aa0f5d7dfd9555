/- chapter 26: same, Next, what lives; the law -/
import Derived.Test.YtfhimpkpfelilaaDoorHD
namespace Go.Proofs.YtfhimpkpfelilaaDoor
open Go.GV Go.RowKit Go.Lib
set_option linter.unusedVariables false
set_option linter.unusedSimpArgs false
theorem same_calls (cs cs' : List Value) (r r' : Ros) (w : World) (h : RosAt w cs r) (h' : RosAt w cs' r') (hz : Sz r) (e1 : r.sg = r'.sg) (e2 : r.ht = r'.ht) (e3 : r.pt = r'.pt) :
    Calls Tryd.prog 6 #[ofL cs, ofL cs', .bool false] w fun e w' => e = .returned (.bool true) ∧ Fr (fun _ => False) w w' := by
  refine (F6.of cs cs' false w (Q := fun v w' => v = .bool true ∧ Fr (fun _ => False) w w') ?_).mono (fun e w' ⟨v, he, hv, h⟩ => ⟨by rw [he, hv], h⟩)
  obtain ⟨A1, c1, A2, c2, A3, c3, A4, c4, rfl, h1, h2, h3, h4⟩ := h
  obtain ⟨B1, d1, B2, d2, B3, d3, B4, d4, rfl, k1, k2, k3, k4⟩ := h'
  have z1 := hz.sg
  have z2 := hz.ht
  have z3 := hz.pt
  refine nw_mk (nw_mk ?_)
  have g1 : Fr (fun _ => False) w (w.alloc (.cells ([.slice A1 r.sg.length c1, .slice A2 r.ht.length c2, .slice A3 r.pt.length c3, .slice A4 r.ot.length c4] : List Value).toArray 25)) := Fr.alloc _ _ _
  have q := RecAt.new w ([.slice A1 r.sg.length c1, .slice A2 r.ht.length c2, .slice A3 r.pt.length c3, .slice A4 r.ot.length c4] : List Value) 25
  generalize w.alloc (.cells ([.slice A1 r.sg.length c1, .slice A2 r.ht.length c2, .slice A3 r.pt.length c3, .slice A4 r.ot.length c4] : List Value).toArray 25) = wa at g1 q ⊢
  have g2 : Fr (fun _ => False) wa (wa.alloc (.cells ([.slice B1 r'.sg.length d1, .slice B2 r'.ht.length d2, .slice B3 r'.pt.length d3, .slice B4 r'.ot.length d4] : List Value).toArray 25)) := Fr.alloc _ _ _
  have p := RecAt.new wa ([.slice B1 r'.sg.length d1, .slice B2 r'.ht.length d2, .slice B3 r'.pt.length d3, .slice B4 r'.ot.length d4] : List Value) 25
  generalize wa.alloc (.cells ([.slice B1 r'.sg.length d1, .slice B2 r'.ht.length d2, .slice B3 r'.pt.length d3, .slice B4 r'.ot.length d4] : List Value).toArray 25) = wb at g2 p ⊢
  have q := q.fr g2 (fun h => h)
  have f := g1.trans1 g2
  refine ⟨_, _, _, q.cell (o := 0) rfl, _, _, _, p.cell (o := 0) rfl, (ints_calls _ _ _ r.sg _ _ _ r'.sg wb (f.sl h1 (fun _ _ _ h => h)) (f.sl k1 (fun _ _ _ h => h)) (by omega)).mono ?_⟩
  rintro e u1 ⟨rfl, f1⟩
  have q := q.fr f1 (fun h => h)
  have p := p.fr f1 (fun h => h)
  have f := f.trans1 f1
  refine ⟨_, rfl, vIf_t (decide_eq_true e1) ⟨_, _, _, q.cell (o := 0 + 1) rfl, _, _, _, p.cell (o := 0 + 1) rfl, (ints_calls _ _ _ r.ht _ _ _ r'.ht u1 (f.sl h2 (fun _ _ _ h => h)) (f.sl k2 (fun _ _ _ h => h)) (by omega)).mono ?_⟩⟩
  rintro e u2 ⟨rfl, f2⟩
  have q := q.fr f2 (fun h => h)
  have p := p.fr f2 (fun h => h)
  have f := f.trans1 f2
  refine ⟨_, rfl, vIf_t (decide_eq_true e2) ⟨_, _, _, q.cell (o := 0 + 2) rfl, _, _, _, p.cell (o := 0 + 2) rfl, (ints_calls _ _ _ r.pt _ _ _ r'.pt u2 (f.sl h3 (fun _ _ _ h => h)) (f.sl k3 (fun _ _ _ h => h)) (by omega)).mono ?_⟩⟩
  rintro e u3 ⟨rfl, f3⟩
  exact ⟨_, rfl, vIf_t (decide_eq_true e3) (vIf_t rfl ⟨rfl, f.trans1 f3⟩)⟩
/-! ### what lives -/
def sgB : Bs := [115, 101, 103, 45, 48, 48, 48, 48, 48, 48, 48, 50]
def htB : Bs := [104, 105, 110, 116, 45, 48, 48, 48, 48, 48, 48, 48, 49]
def xB : Bs := [120]
theorem num_sg : num sgB = (1, 2) := by
  have e : fileL 1 2 = sgB := by decide
  rw [← e]; exact file_num (by decide)
theorem num_ht : num htB = (2, 1) := by
  have e : fileL 2 1 = htB := by decide
  rw [← e]; exact file_num (by decide)
theorem num_x : num xB = (0, 0) := by
  refine num_eq (.inr ⟨rfl, rfl, fun k n g he => ?_⟩)
  rw [fileL_good g] at he
  have := congrArg List.length he
  rw [List.length_append, digs_len] at this
  simp [xB] at this
theorem ros_live : ros [sgB, htB, xB] = ⟨[2], [1], [], [xB]⟩ := by
  have h1 : nums 1 [sgB, htB, xB] = [2] := by simp [nums, num_sg, num_ht, num_x]
  have h2 : nums 2 [sgB, htB, xB] = [1] := by simp [nums, num_sg, num_ht, num_x]
  have h3 : nums 3 [sgB, htB, xB] = [] := by simp [nums, num_sg, num_ht, num_x]
  have h4 : oth [sgB, htB, xB] = [xB] := by simp [oth, num_sg, num_ht, num_x]
  unfold ros
  rw [h1, h2, h3, h4]
  rfl
theorem stale_live : (ros [sgB, htB, xB]).stale = [htB] := by
  rw [ros_live]
  have e : fileL 2 1 = htB := by decide
  have h : tmpB ∉ [xB] := by decide
  unfold Ros.stale stale
  simp only [if_neg h, List.nil_append]
  simp [e]
theorem next_calls (A : Option Addr) (c : Nat) (w : World) (h : Sl w 1 A 1 (ivs [2])) :
    Calls Tryd.prog 17 #[.slice A 1 c] w fun e w' => e = .returned (.int .i64 3) ∧ w' = w := by
  refine (F17.of A 1 c w (Q := fun v w' => v = .int .i64 3 ∧ w' = w) ?_).mono (fun e w' ⟨v, he, hv, h⟩ => ⟨by rw [he, hv], h⟩)
  refine vIf_f rfl ?_
  have e : IntKind.wrap .i64 (((1 : Nat) : Int) - 1) = ((0 : Nat) : Int) := by rw [i64_id (by omega) (by omega)]; rfl
  rw [e]
  refine sl_rd h (by omega) (x := 2) rfl ⟨?_, rfl⟩
  rw [i64_id (by omega) (by omega)]; rfl
theorem lives_calls (w : World) (hv : VK w) : Calls Tryd.prog 7 #[] w fun e w' => e = .returned (.bool true) ∧ Fr (fun _ => False) w w' := by
  refine (F7.of w (Q := fun v w' => v = .bool true ∧ Fr (fun _ => False) w w') ?_).mono (fun e w' ⟨v, he, hv, h⟩ => ⟨by rw [he, hv], h⟩)
  refine nw_mk ?_
  have g1 : Fr (fun _ => False) w (w.alloc (.cells (bvs [sgB, htB, xB]).toArray 9)) := Fr.alloc _ _ _
  have r1 : Row (w.alloc (.cells (bvs [sgB, htB, xB]).toArray 9)) 0 9 1 (some ⟨w.heap.size, 0, none⟩) 3 3 (bvs [sgB, htB, xB]) := Row.new (Nat.zero_le _) rfl
  have he : (w.alloc (.cells (bvs [sgB, htB, xB]).toArray 9)) = w.alloc (.cells ([Value.string (⟨#[115, 101, 103, 45, 48, 48, 48, 48, 48, 48, 48, 50]⟩ : ByteArray)] ++ ([Value.string (⟨#[104, 105, 110, 116, 45, 48, 48, 48, 48, 48, 48, 48, 49]⟩ : ByteArray)] ++ ([Value.string (⟨#[120]⟩ : ByteArray)] ++ []))).toArray 9) := rfl
  rw [he] at g1 r1
  generalize w.alloc (.cells ([Value.string (⟨#[115, 101, 103, 45, 48, 48, 48, 48, 48, 48, 48, 50]⟩ : ByteArray)] ++ ([Value.string (⟨#[104, 105, 110, 116, 45, 48, 48, 48, 48, 48, 48, 48, 49]⟩ : ByteArray)] ++ ([Value.string (⟨#[120]⟩ : ByteArray)] ++ []))).toArray 9) = w2 at g1 r1 ⊢
  refine (of_calls _ 3 3 [sgB, htB, xB] w2 r1.sl (hv.fr g1) (by omega) (by decide)).mono ?_
  rintro e w3 ⟨f3, cs, rfl, hR⟩
  have hR0 := hR
  obtain ⟨A1, c1, A2, c2, A3, c3, A4, c4, rfl, h1, h2, h3, h4⟩ := hR
  refine ⟨_, rfl, nw_mk (gd_mk rfl ?_)⟩
  have g4 : Fr (fun _ => False) w3 (w3.alloc (.cells Z25.toArray 25)) := Fr.alloc _ _ _
  have q := RecAt.new w3 Z25 25
  have e4 : (w3.alloc (.cells Z25.toArray 25)).heap.size = w3.heap.size + 1 := alloc_size _ _
  generalize w3.alloc (.cells Z25.toArray 25) = w4 at g4 q e4 ⊢
  refine q.st_mk (o := 0) (by show 0 + 4 ≤ 4; omega) (fun v hv => by
    simp only [List.mem_cons, List.not_mem_nil, or_false] at hv
    rcases hv with rfl | rfl | rfl | rfl <;> rfl) (fun q f5 => ?_)
  rw [splice_full (by rfl)] at q
  have f35 : Fr (fun _ => False) w3 (stB w4 w3.heap.size 0 [.slice A1 (ros [sgB, htB, xB]).sg.length c1, .slice A2 (ros [sgB, htB, xB]).ht.length c2, .slice A3 (ros [sgB, htB, xB]).pt.length c3, .slice A4 (ros [sgB, htB, xB]).ot.length c4]) := fr_own g4 f5 (fun k hk h => by
    have h : k = w3.heap.size := h
    omega)
  have f05 := (g1.trans1 f3).trans1 f35
  generalize stB w4 w3.heap.size 0 [.slice A1 (ros [sgB, htB, xB]).sg.length c1, .slice A2 (ros [sgB, htB, xB]).ht.length c2, .slice A3 (ros [sgB, htB, xB]).pt.length c3, .slice A4 (ros [sgB, htB, xB]).ot.length c4] = w5 at q f35 f05 ⊢
  refine ⟨_, rfl, q.cells (fun j v hj => by rw [Nat.zero_add]; exact hj), (stale_calls _ (ros [sgB, htB, xB]) w5 (hR0.fr f35) (hv.fr f05) (ros_sz (by decide))).mono ?_⟩
  rintro e w6 ⟨f6, A', c', rfl, h6⟩
  have q := q.fr f6 (fun h => h)
  have h1 := (f35.trans1 f6).sl h1 (fun _ _ _ h => h)
  rw [stale_live] at h6 ⊢
  rw [ros_live] at q h1
  have f06 := f05.trans1 f6
  refine ⟨_, _, _, rfl, _, _, _, q.cell (o := 0) rfl, vIf_t rfl ⟨_, _, _, q.cell (o := 0 + 3) rfl, vIf_t rfl ⟨_, _, _, q.cell (o := 0) rfl, (next_calls A1 c1 w6 h1).mono ?_⟩⟩⟩
  rintro e w7 ⟨rfl, rfl⟩
  refine ⟨_, rfl, vIf_t rfl (vIf_t rfl ?_)⟩
  obtain ⟨b, o, hA, hc⟩ := h6.sl.2 (by decide)
  subst hA
  have hc0 := hc 0 _ (bvs_at (r := [htB]) (i := 0) (x := htB) rfl)
  rw [Nat.add_zero] at hc0
  refine dr_mk (gd_mk rfl ⟨_, hc0, ?_, f06⟩)
  rw [show ((bs htB).toList == (⟨#[104, 105, 110, 116, 45, 48, 48, 48, 48, 48, 48, 48, 49]⟩ : ByteArray).toList) = decide (htB = htB) from eq_iff htB htB, decide_eq_true rfl]
end Go.Proofs.YtfhimpkpfelilaaDoor
