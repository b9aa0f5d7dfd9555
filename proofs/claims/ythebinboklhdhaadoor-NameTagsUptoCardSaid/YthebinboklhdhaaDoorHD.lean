/- chapter 08: lives, and the three laws -/
import Derived.Test.YthebinboklhdhaaDoorHC
namespace Go.Proofs.YthebinboklhdhaaDoor
open Go.GV Go.RowKit Go.Lib
set_option linter.unusedVariables false
set_option linter.unusedSimpArgs false
theorem bool_eq {a b : Bool} {P : Prop} (h : a = true ↔ P) (h' : b = true ↔ P) : a = b := by
  rw [Bool.eq_iff_iff, h, h']
theorem digs_mem : ∀ (k n : Nat) (b : UInt8), b ∈ digs k n → 48 ≤ b.toNat ∧ b.toNat ≤ 57
  | 0, _, b, h => by cases h
  | k + 1, n, b, h => by
    rcases List.mem_append.1 h with h1 | h1
    · exact digs_mem k _ b h1
    · simp at h1; subst h1; rw [dg_nat]; omega
theorem wl_mem {k : Int} {b : UInt8} (h : b ∈ wl k) : 33 ≤ b.toNat ∧ b.toNat ≤ 126 ∧ b.toNat ≠ 47 := by
  have all : ∀ (l : List UInt8), l.all (fun b => decide (33 ≤ b.toNat ∧ b.toNat ≤ 126 ∧ b.toNat ≠ 47)) = true → b ∈ l → 33 ≤ b.toNat ∧ b.toNat ≤ 126 ∧ b.toNat ≠ 47 := fun l hl hb => of_decide_eq_true (List.all_eq_true.1 hl b hb)
  unfold wl at h
  split at h
  · exact all _ (by decide) h
  · split at h
    · exact all _ (by decide) h
    · split at h
      · exact all _ (by decide) h
      · cases h
theorem disk_bs {l : List UInt8} (h : ∀ b ∈ l, 33 ≤ b.toNat ∧ b.toNat ≤ 126 ∧ b.toNat ≠ 47) (h1 : 1 ≤ l.length) (h2 : l.length ≤ 32) : DiskP (bs l) := by
  refine ⟨fun i hi => ?_, by rw [bs_size]; exact h1, by rw [bs_size]; exact h2⟩
  rw [bs_size] at hi
  have hg : l[i]? = some (l[i]'hi) := List.getElem?_eq_getElem hi
  have hm := h _ (List.mem_of_getElem? hg)
  rw [byte_bs hg]
  omega
theorem wl_len {k : Int} (h1 : 1 ≤ k) (h3 : k ≤ 3) : 4 ≤ (wl k).length ∧ (wl k).length ≤ 6 := by
  rcases kinds h1 h3 with rfl | rfl | rfl <;> simp [wl]
theorem fileL_len {k n : Int} (h : good k n) : 12 ≤ (fileL k n).length ∧ (fileL k n).length ≤ 14 := by
  rw [fileL_good h, List.length_append, digs_len]
  have := wl_len h.1 h.2.1
  omega
theorem file_disk {k n : Int} (h : good k n) : DiskP (bs (fileL k n)) := by
  have hl := fileL_len h
  refine disk_bs (fun b hb => ?_) (by omega) (by omega)
  rw [fileL_good h] at hb
  rcases List.mem_append.1 hb with h1 | h1
  · exact wl_mem h1
  · have := digs_mem _ _ _ h1; omega
def seg12 : List UInt8 := [115, 101, 103, 45, 48, 48, 48, 48, 48, 48, 49, 50]
theorem seg12_eq : fileL 1 12 = seg12 := by decide
def v10 : List UInt8 := [118, 49, 46, 48]
theorem v10_tag : TagP (bs v10) := by
  have h0 : byteAt (bs v10) 0 = 118 := by decide
  have h1 : byteAt (bs v10) 1 = 49 := by decide
  have h2 : byteAt (bs v10) 2 = 46 := by decide
  have h3 : byteAt (bs v10) 3 = 48 := by decide
  have hs : (bs v10).size = 4 := rfl
  refine ⟨fun i hi => ?_, by rw [hs]; omega, by rw [hs]; omega⟩
  rw [hs] at hi
  unfold tagOk
  match i, hi with
  | 0, _ => left; rw [h0]; left; omega
  | 1, _ => left; rw [h1]; right; omega
  | 2, _ => right; refine ⟨by omega, ?_⟩; rw [h2]; left; rfl
  | 3, _ => left; rw [h3]; right; omega
theorem lives_calls (w : World) (hv : VK w) : Calls Tryd.prog 10 #[] w fun e w' => e = .returned (.bool true) ∧ Fr (fun _ => False) w w' := by
  refine (F10.of w (Q := fun v w' => v = .bool true ∧ Fr (fun _ => False) w w') ?_).mono (fun e w' ⟨v, he, hv, h⟩ => ⟨by rw [he, hv], h⟩)
  have hg : good 1 12 := by decide
  refine (number_calls seg12 w hv (by decide)).mono ?_
  rintro e u ⟨⟨k, n, rfl, hn⟩, f1⟩
  have hn2 : IsNum seg12 1 12 := by rw [← seg12_eq]; exact isNum_file hg
  obtain ⟨rfl, rfl⟩ := hn.unique hn2
  refine ⟨1, 12, rfl, (file_calls 1 12 u (hv.fr f1)).mono ?_⟩
  rintro e u2 ⟨rfl, f2⟩
  rw [seg12_eq]
  have he : ((bs seg12).toList == (bs seg12).toList) = true := by simp
  refine ⟨_, rfl, vIf_t he (vIf_t rfl (vIf_t rfl ((tag_calls (bs v10) u2 (by decide)).mono ?_)))⟩
  rintro e u3 ⟨⟨t, rfl, ht⟩, rfl⟩
  rw [ht.2 v10_tag]
  exact ⟨_, rfl, rfl, f1.trans1 f2⟩
theorem tags_law (s : ByteArray) (w : World) (hv : VK w) (hs : s.size ≤ 1048576) : Calls Tryd.prog 4 #[.string s] w fun e w' => e = .returned (.bool true) ∧ Fr (fun _ => False) w w' := by
  refine (F4.of s w (Q := fun v w' => v = .bool true ∧ Fr (fun _ => False) w w') ?_).mono (fun e w' ⟨v, he, hv, h⟩ => ⟨by rw [he, hv], h⟩)
  refine (tag_calls s w (by omega)).mono ?_
  rintro e u ⟨⟨t1, rfl, h1⟩, rfl⟩
  refine ⟨_, rfl, (rtag_calls s u (by omega)).mono ?_⟩
  rintro e u2 ⟨⟨t2, rfl, h2⟩, rfl⟩
  have h12 := bool_eq h1 h2
  subst h12
  refine ⟨_, rfl, vIf_t (by simp) ((disk_calls s u2 (by omega)).mono ?_)⟩
  rintro e u3 ⟨⟨t3, rfl, h3⟩, rfl⟩
  refine ⟨_, rfl, (rdisk_calls s u3 (by omega)).mono ?_⟩
  rintro e u4 ⟨⟨t4, rfl, h4⟩, rfl⟩
  have h34 := bool_eq h3 h4
  subst h34
  refine ⟨_, rfl, vIf_t (by simp) ((lives_calls u4 hv).mono ?_)⟩
  rintro e u5 ⟨rfl, f⟩
  exact ⟨_, rfl, rfl, f⟩
theorem files_law (k n : Int) (s : ByteArray) (w : World) (hv : VK w) (hs : s.size ≤ 1048576) : Calls Tryd.prog 3 #[.int .i64 k, .int .i64 n, .string s] w fun e w' => e = .returned (.bool true) ∧ Fr (fun _ => False) w w' := by
  have hself := bs_self s
  generalize s.data.toList = l at hself
  subst hself
  rw [bs_size] at hs
  refine (F3.of k n (bs l) w (Q := fun v w' => v = .bool true ∧ Fr (fun _ => False) w w') ?_).mono (fun e w' ⟨v, he, hv, h⟩ => ⟨by rw [he, hv], h⟩)
  refine (number_calls l w hv (by omega)).mono ?_
  rintro e u ⟨⟨k1, n1, rfl, h1⟩, f1⟩
  refine ⟨_, _, rfl, (rnumber_calls l u (by omega)).mono ?_⟩
  rintro e u2 ⟨⟨k2, n2, rfl, h2⟩, f2⟩
  obtain ⟨rfl, rfl⟩ := h1.unique h2
  have g2 := f1.trans1 f2
  refine ⟨_, _, rfl, (file_calls k n u2 (hv.fr g2)).mono ?_⟩
  rintro e u3 ⟨rfl, f3⟩
  refine ⟨_, rfl, (rfile_calls k n u3).mono ?_⟩
  rintro e u4 ⟨rfl, f4⟩
  have g4 := (g2.trans1 f3).trans1 f4
  refine ⟨_, rfl, vIf_t (by simp) (vIf_t (by simp) (vIf_t (by simp) ((lives_calls u4 (hv.fr g4)).mono ?_)))⟩
  rintro e u5 ⟨rfl, f5⟩
  exact ⟨_, rfl, rfl, g4.trans1 f5⟩
def temp : List UInt8 := [112, 111, 105, 110, 116, 46, 116, 109, 112]
theorem temp_num {k n : Int} (h : IsNum temp k n) : k = 0 := by
  rcases h with ⟨g, e⟩ | ⟨h, _⟩
  · have := fileL_len g
    rw [← e] at this
    have h9 : temp.length = 9 := rfl
    omega
  · exact h
theorem temp_disk : DiskP (bs temp) := by
  refine disk_bs (fun b hb => ?_) (by decide) (by decide)
  have : temp.all (fun b => decide (33 ≤ b.toNat ∧ b.toNat ≤ 126 ∧ b.toNat ≠ 47)) = true := by decide
  exact of_decide_eq_true (List.all_eq_true.1 this b hb)
set_option maxHeartbeats 1000000 in
theorem back_law (k n : Int) (s : ByteArray) (w : World) (hv : VK w) (hs : s.size ≤ 1048576) : Calls Tryd.prog 5 #[.int .i64 k, .int .i64 n, .string s] w fun e w' => e = .returned (.bool true) ∧ Fr (fun _ => False) w w' := by
  have hself := bs_self s
  generalize s.data.toList = l at hself
  subst hself
  rw [bs_size] at hs
  refine (F5.of k n (bs l) w (Q := fun v w' => v = .bool true ∧ Fr (fun _ => False) w w') ?_).mono (fun e w' ⟨v, he, hv, h⟩ => ⟨by rw [he, hv], h⟩)
  -- what follows
  have k6 : ∀ u, Fr (fun _ => False) w u → jnC (F5.k6 (fun v w' => v = .bool true ∧ Fr (fun _ => False) w w')) (bs l, ()) u := by
    intro u fu
    refine jnC_mk (fun _ => (number_calls l u (hv.fr fu) (by omega)).mono ?_)
    rintro e u1 ⟨⟨k1, n1, rfl, h1⟩, f1⟩
    have g1 := fu.trans1 f1
    refine ⟨_, _, rfl, (number_calls temp u1 (hv.fr g1) (by decide)).mono ?_⟩
    rintro e u2 ⟨⟨k2, n2, rfl, h2⟩, f2⟩
    have hk2 := temp_num h2
    subst hk2
    have g2 := g1.trans1 f2
    have last : ∀ u3, Fr (fun _ => False) w u3 → Calls Tryd.prog 13 #[.string (bs temp)] u3 fun e20 w19 => ∃ t21 : Bool, e20 = .returned (Value.bool t21) ∧ vIf t21 (Calls Tryd.prog 10 #[] w19 fun e23 w22 => ∃ t24 : Bool, e23 = .returned (Value.bool t24) ∧ (Value.bool t24 = .bool true ∧ Fr (fun _ => False) w w22)) (Value.bool false = .bool true ∧ Fr (fun _ => False) w w19) := by
      intro u3 f3
      refine (disk_calls (bs temp) u3 (by decide)).mono ?_
      rintro e u4 ⟨⟨t, rfl, ht⟩, rfl⟩
      refine ⟨_, rfl, vIf_t (ht.2 temp_disk) ((lives_calls u4 (hv.fr f3)).mono ?_)⟩
      rintro e u5 ⟨rfl, f5⟩
      exact ⟨_, rfl, rfl, f3.trans1 f5⟩
    refine ⟨_, _, rfl, ?_⟩
    rcases h1 with ⟨g, he⟩ | ⟨rfl, rfl, _⟩
    · refine vIf_f ?_ ((file_calls k1 n1 u2 (hv.fr g2)).mono ?_)
      · have := g.1
        simp; omega
      · rintro e u3 ⟨rfl, f3⟩
        rw [← he]
        exact ⟨_, rfl, vIf_t (by simp) (vIf_t rfl (last u3 (g2.trans1 f3)))⟩
    · exact vIf_t rfl (vIf_t rfl (vIf_t rfl (last u2 g2)))
  refine (file_calls k n w hv).mono ?_
  rintro e u ⟨rfl, f⟩
  refine ⟨_, rfl, vIf_mk (fun h0 => ?_) (fun h0 => k6 u f)⟩
  have h0 : (!((bs (fileL k n)).toList == (bs []).toList)) = true := h0
  rw [eq_iff] at h0
  have h0 := ndec_t h0
  have hg : good k n := by
    by_cases hg : good k n
    · exact hg
    · exact absurd (fileL_nil hg) h0
  have hl := fileL_len hg
  refine (number_calls (fileL k n) u (hv.fr f) (by omega)).mono ?_
  rintro e u1 ⟨⟨k1, n1, rfl, h1⟩, f1⟩
  obtain ⟨rfl, rfl⟩ := h1.unique (isNum_file hg)
  refine ⟨_, _, rfl, vIf_f (by simp) (vIf_f (by simp) ((disk_calls (bs (fileL k1 n1)) u1 (by rw [bs_size]; omega)).mono ?_))⟩
  rintro e u2 ⟨⟨t, rfl, ht⟩, rfl⟩
  rw [ht.2 (file_disk hg)]
  exact ⟨_, rfl, vIf_f rfl (k6 u2 (f.trans1 f1))⟩
end Go.Proofs.YthebinboklhdhaaDoor
