/- A world of weights: New. -/
import Derived.Test.YtmdhhembkmkfdaaWm
namespace Go.Proofs.Ytmdhhembkmkfdaa.Wt
open Go Go.RowKit Go.Proofs.Ytmdhhembkmkfdaa.K Go.Proofs.Ytmdhhembkmkfdaa.M Go.Proofs.Ytmdhhembkmkfdaa.O

theorem info88 : (Try.prog.info? 88).map (fun i => (i.zero, i.size, i.bytes)) = some (some (.map none), 1, 8) := by kernel_rfl
theorem snoc_getD (bs : List Nat) (b n : Nat) : (bs ++ [b]).getD n 0 = if n < bs.length then bs.getD n 0 else if n = bs.length then b else 0 := by
  simp only [List.getD_eq_getElem?_getD, List.getElem?_append]
  split
  · rfl
  · rename_i h
    by_cases e : n = bs.length
    · simp [e]
    · have : n - bs.length ≠ 0 := by omega
      simp [e, this]

set_option maxHeartbeats 4000000 in
set_option maxRecDepth 100000 in
theorem new_any (k : Nat) (w : World) (h1 : 1 ≤ k) (h8 : k ≤ 8) :
    Calls Try.prog 45 #[.int .i64 (k : Int)] w fun e w' => ∃ g v2 bs, e = .returned (.tuple #[.pointer (some ⟨g, 0, none⟩), .int .i64 0]) ∧ IsW w' w.heap.size g ⟨k, [], fun _ _ => 0, []⟩ (.slice none 0 0) v2 (.slice none 0 0) bs ∧ Upd [] w w' := by
  obtain ⟨i88, hi88, hz88a, hz88b, hz88c⟩ := info_parts info88
  have HI88 := hid hi88
  have HA88 := hid hz88a
  have HB88 := hid hz88b
  have HC88 := hid hz88c
  clear hi88 hz88a hz88b hz88c
  obtain ⟨B, hB⟩ : ∃ B, B = w.heap.size := ⟨_, rfl⟩
  have HBS := hid hB
  have bk : Hid ((w.alloc (.cells #[.int .i64 (k : Int), .slice none 0 0, .slice none 0 0, .slice none 0 0] 87)).heap[B]? = some (.cells #[.int .i64 (k : Int), .slice none 0 0, .slice none 0 0, .slice none 0 0] 87 (0, 0))) := by rw [hB]; exact blk_new w _
  have k1 : ¬ (k : Int) < 1 := by omega
  have k8 : ¬ (8 : Int) < (k : Int) := by omega
  go_enter Try.func45, Try.ntmps45
  go_wp2_with fail
  rw [← hB]
  clear hB
  go_loopg [15] k (fun d v15 wr => ∃ (j : Nat) (v2 : Value) (bs : List Nat), v15 = .int .i64 (j : Int) ∧ j ≤ k ∧ Hid (j + d = k) ∧ Hid (bs.length = j) ∧ Hid (wr.heap[B]? = some (.cells #[.int .i64 (k : Int), .slice none 0 0, v2, .slice none 0 0] 87 (0, 0))) ∧ Hid (wr.ownsRow B 88 1 v2 j (bs.map (fun b => Value.map (some b)))) ∧ Hid (∀ b ∈ bs, B ≤ b ∧ IsMap wr b []) ∧ Hid bs.Nodup ∧ Hid (Upd [] w wr))
  case atStart => exact ⟨0, .slice none 0 0, [], rfl, by omega, by show _ = _; omega, rfl, bk.out, World.ownsRow_nil _ _ _ _, hid (fun b hb => by cases hb), List.nodup_nil, (Upd.refl [] w).alloc _⟩
  case round =>
    clear bk
    obtain ⟨j, v2, bs, rfl, hjk, Hj, HL, HK, HO, HM, HD, HU⟩ := hrel
    by_cases hj : j < k
    · have hj' : (j : Int) < (k : Int) := by omega
      obtain ⟨a2, k2, e2, l1, l2, -⟩ := own_view HO.out
      have c2 : wr.cell? ⟨B, 2, none⟩ = some v2 := (blk_cell HK.out 2).trans rfl
      have gl := World.block_lt_of_cell? wr _ c2
      simp only at gl
      have HV := hid e2
      rw [e2] at c2
      have OW : Hid (wr.ownsRow B 88 1 (.slice a2 j k2) j (bs.map (fun b => Value.map (some b)))) := by have := HO.out; rw [e2] at this; exact this
      clear e2
      have hmm := @run_makeMap Try.prog
      go_wp2_with (first | (at_builtin; go_loud (refine wpList_app (W := wr.alloc (.map #[] 0)) rfl (.tmp 21) (.tmp 23) 85 rfl B 88 i88 _ 1 8 Try.underlying85 HI88.out HA88.out HB88.out HC88.out rfl (by decide) (.slice a2 j k2) j (bs.map (fun b => Value.map (some b))) rfl (OW.out.alloc _) [.map (some wr.heap.size)] 88 (by first | rfl | (rw [World.size_alloc]; rfl)) rfl (by intro u hu; simp at hu; subst hu; rfl) (by omega) (by omega) (by simp; omega) ?_); intro v2' w2 ho hu2 hl2; have HO2 := hid ho; have HU2 := hid hu2; have hb2 := hu2.blk (blk_alloc HK.out _) (not_mem_own (fun x hx => own_cells_ne OW.out HK.out (by decide) x hx)); have fz := blk_frozen hb2 2; have cz := (blk_cell hb2 2).trans rfl; have HB2 := hid hb2; obtain ⟨a4, k4, e4, -, -, -⟩ := own_view ho; subst e4; clear ho hu2 hl2 hb2))
      go_roundg (k - (j + 1))
      case measure => have := Hj.out; omega
      case rel =>
        have us : Upd [B] w2 (w2.setCell ⟨B, 2, none⟩ (.slice a4 (j + 1) k4)) := (Upd.refl _ w2).setCell (.inl (by simp)) _
        have mb := IsMap.made wr
        have hne2 : ∀ b m, IsMap (wr.alloc (.map #[] 0)) b m → IsMap (w2.setCell ⟨B, 2, none⟩ (.slice a4 (j + 1) k4)) b m := fun b m hb => (hb.upd HU2.out (not_mem_own (fun x hx => own_map_ne (OW.out.alloc _) hb x hx))).upd us (by simp only [List.mem_singleton]; exact (hb.ne_cells (blk_alloc HK.out _)))
        have ou : Upd [] w w2 := (HU.out.alloc _).trans HU2.out (fun t ht => .inr (by rw [← HBS.out]; exact own_ge OW.out t (by simpa using ht)))
        refine ⟨j + 1, .slice a4 (j + 1) k4, bs ++ [wr.heap.size], by go_num, by omega, by show _ = _; omega, by show _ = _; rw [List.length_append, HL.out]; rfl, ?_, ?_, ?_, ?_, ?_⟩
        · exact (blk_set HB2.out 2 _).trans rfl
        · have := HO2.out
          rw [show bs.map (fun b => Value.map (some b)) ++ [.map (some wr.heap.size)] = (bs ++ [wr.heap.size]).map (fun b => Value.map (some b)) by simp] at this
          exact own_upd this us (fun x hx => by simpa using own_cells_ne this HB2.out (by decide) x hx)
        · intro b hb
          rcases List.mem_append.1 hb with q | q
          · exact ⟨(HM.out b q).1, hne2 b [] ((HM.out b q).2.alloc _)⟩
          · simp at q; subst q
            exact ⟨by omega, hne2 _ [] mb⟩
        · show (bs ++ [wr.heap.size]).Nodup
          rw [List.nodup_append]
          refine ⟨HD.out, by simp, fun a ha b hb e => ?_⟩
          simp at hb; subst hb; subst e
          have := (HM.out _ ha).2.lt; omega
        · exact ou.trans us (fun t ht => .inr (by simp at ht; subst ht; rw [← HBS.out]; exact Nat.le_refl _))
    · obtain rfl : j = k := by omega
      go_wp2_with fail
      go_ret2
      refine ⟨B, v2, bs, rfl, ?_, HU.out⟩
      rw [← HBS.out]
      refine ⟨HK.out, World.ownsRow_nil _ _ _ _, HO.out, World.ownsRow_nil _ _ _ _, HL.out, fun n hn => ?_, HD.out, Nat.le_refl _⟩
      have hn' : n < bs.length := by rw [HL.out]; exact hn
      have hm : bs.getD n 0 ∈ bs := by rw [List.getD_eq_getElem?_getD, List.getElem?_eq_getElem hn']; simp
      exact ⟨(HM.out _ hm).1, [], (HM.out _ hm).2, by simp, fun t => by simp [mlook_nil]⟩
end Go.Proofs.Ytmdhhembkmkfdaa.Wt
