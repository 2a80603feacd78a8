/- The walk of the statement NamesOwn. -/
import Derived.Test.YtbkhjmdklghbiaaDoorOa
namespace Go.Proofs.YtbkhjmdklghbiaaDoor.Nm
open Go Go.RowKit Go.Proofs.YtbkhjmdklghbiaaDoor Go.Proofs.YtbkhjmdklghbiaaDoor.K Go.Proofs.YtbkhjmdklghbiaaDoor.M Go.Proofs.YtbkhjmdklghbiaaDoor.O Go.Proofs.YtbkhjmdklghbiaaDoor.R

theorem blkOf_own {a : Option Addr} {n k : Nat} : (Value.slice a n k).ownBlock.toList = blkOf a := by
  cases a <;> rfl
theorem merge_new (me : Nat) {l : List Row} (hw : WF l) : (gmerge (gnew me) l).rows = l := by
  have w0 : WF (gnew me).rows := ⟨fun i j _ h => by simp [gnew] at h, fun i h => by simp [gnew] at h⟩
  have r0 : Rep (gnew me).rows (fun _ => False) := ⟨fun x hx => by simp [gnew] at hx, fun _ h => h.elim⟩
  have h := r0.merge (Rep.self l) w0 hw
  exact (h.iff (Q := fun x => x ∈ l) (fun x => by simp)).unique (Rep.self l) (WF.rmerge l w0 (fun y hy => hw.keys' hy)) hw

theorem tell_rows {B q n m k : Nat} {Z : List Nat} {g : Nat → Nat} {w0 w : World} {s : Nat → G} {b : Nat} {i : Nat} (h : Mn B q n m k Z g w0 w s) (hi : i < n) (ho : Ok (s i) b) {l : List Row} (hl : (s i).rows = l) :
    Calls Tryd.prog 12 #[.pointer (some ⟨g i, 0, none⟩)] w fun e w' => ∃ a c, e = .returned (.slice a l.length c) ∧ l.length ≤ c ∧ c ≤ 9223372036854775807 ∧ RowAt w' a l ∧ Blk w' a c 4 40 ∧ Upd [] w w' ∧ ∀ z ∈ blkOf a, w.heap.size ≤ z := by
  refine (net_state h.net hi ho).mono ?_
  rintro e w' ⟨v, rfl, h1, h2⟩
  obtain ⟨a, c, rfl, k1, k2, -⟩ := own_view h1
  subst hl
  exact ⟨a, c, rfl, k1, k2, rowAt_own h1, blk_own h1, h2, fun z hz => (own_blk h1 z hz).1⟩
theorem tell_names {B q n m k : Nat} {Z : List Nat} {g : Nat → Nat} {w0 w : World} {s : Nat → G} {b : Nat} {i : Nat} (h : Mn B q n m k Z g w0 w s) (hi : i < n) (ho : Ok (s i) b) {l : List Row} (hl : (s i).rows = l) :
    Calls Tryd.prog 19 #[.pointer (some ⟨g i, 0, none⟩)] w fun e w' => ∃ a c, e = .returned (.slice a (allOf l).length c) ∧ (allOf l).length ≤ c ∧ c ≤ 9223372036854775807 ∧ NmAt w' a (allOf l) ∧ Blk w' a c 2 47 ∧ Upd [] w w' ∧ ∀ z ∈ blkOf a, w.heap.size ≤ z := by
  refine (net_all h.net hi ho).mono ?_
  rintro e w' ⟨v, rfl, h1, h2⟩
  obtain ⟨a, c, rfl, k1, k2, -⟩ := own_view h1
  subst hl
  exact ⟨a, c, rfl, k1, k2, nmAt_own h1, blk_own h1, h2, fun z hz => (own_blk h1 z hz).1⟩

set_option maxHeartbeats 16000000 in
set_option maxRecDepth 100000 in
theorem own_walk (a : Option Addr) (len cap : Nat) (xs : List Int) (w : World) (hx : IntRow w a xs) (hl : xs.length = len) (hlc : len ≤ cap) (hc : cap ≤ 9223372036854775807) :
    Calls Tryd.prog 7 #[.slice a len cap] w fun e w' => e = .returned (.bool true) ∧ Upd [] w w' := by
  have RG := fun w1 (u : Upd [] w w1) => hid (reg_mn 2 a len cap xs w w1 (by decide) (by decide) (hx.upd u) hl hlc hc u)
  clear hx hl hlc hc
  go_enter Tryd.func7, Tryd.ntmps7
  go_wp2_with fail
  refine (begun_true w).mono ?_
  rintro e w1 ⟨rfl, hu1⟩
  have RG' := hid (RG w1 hu1)
  clear hu1 RG
  go_wp2_with fail
  refine RG'.out.out.mono ?_
  rintro e w2 ⟨B, q, k, g, s, rfl, hm, hb⟩
  have HM := hid hm
  have OK0 := hid (hb 0 (by decide)).ok
  have c0 := hm.ptr (show 0 < 2 by decide)
  clear hm hb RG'
  go_upto_region 6 with (fail)
  refine J.J_begin (fun wz => wz.cell? ⟨q, 0, none⟩ = some (.pointer (some ⟨g 0, 0, none⟩))) 9 (by kernel_rfl) ⟨by kernel_rfl, by kernel_rfl, by kernel_rfl⟩ c0 (fun LAST HS => ?_)
  refine J.J_take (i := 0) (v := ?_) LAST (by rfl) (by decide) (by kernel_rfl) (by kernel_rfl) (by intro _ _ _ h; exact h) HS (Or.inl ⟨by rfl, ?_⟩) ?_
  rotate_left
  · intro w hSw; (try dsimp only at hSw); go_simp; try with_reducible rfl
  try simp only [Act.put, List.setIfInBounds_toArray, List.set_cons_zero, List.set_cons_succ]
  refine J.J_take (i := 1) (v := ?_) LAST (by rfl) (by decide) (by kernel_rfl) (by kernel_rfl) (by intro _ _ _ h; exact h) HS (Or.inl ⟨by rfl, ?_⟩) ?_
  rotate_left
  · intro w hSw; (try dsimp only at hSw); go_simp; try with_reducible rfl
  try simp only [Act.put, List.setIfInBounds_toArray, List.set_cons_zero, List.set_cons_succ]
  refine J.J_take (i := 2) (v := ?_) LAST (by rfl) (by decide) (by kernel_rfl) (by kernel_rfl) (by intro _ _ _ h; exact h) HS (Or.inl ⟨by rfl, ?_⟩) ?_
  rotate_left
  · intro w hSw; (try dsimp only at hSw); go_simp; try with_reducible rfl
  try simp only [Act.put, List.setIfInBounds_toArray, List.set_cons_zero, List.set_cons_succ]
  refine J.J_take (i := 4) (v := ?_) LAST (by rfl) (by decide) (by kernel_rfl) (by kernel_rfl) (by intro _ _ _ h; exact h) HS (Or.inl ⟨by rfl, ?_⟩) ?_
  rotate_left
  · intro w hSw; (try dsimp only at hSw); go_simp; try with_reducible rfl
  try simp only [Act.put, List.setIfInBounds_toArray, List.set_cons_zero, List.set_cons_succ]
  refine J.J_take (i := 5) (v := ?_) LAST (by rfl) (by decide) (by kernel_rfl) (by kernel_rfl) (by intro _ _ _ h; exact h) HS (Or.inl ⟨by rfl, ?_⟩) ?_
  rotate_left
  · intro w hSw; (try dsimp only at hSw); go_simp; try with_reducible rfl
  try simp only [Act.put, List.setIfInBounds_toArray, List.set_cons_zero, List.set_cons_succ]
  refine J.J_take (i := 6) (v := ?_) LAST (by rfl) (by decide) (by kernel_rfl) (by kernel_rfl) (by intro _ _ _ h; exact h) HS (Or.inl ⟨by rfl, ?_⟩) ?_
  rotate_left
  · intro w hSw; (try dsimp only at hSw); go_simp; try with_reducible rfl
  try simp only [Act.put, List.setIfInBounds_toArray, List.set_cons_zero, List.set_cons_succ]
  refine J.J_one (i := 3) (by rfl) (by decide) (by kernel_rfl) (fun KK hK => ?_)
  go_simp
  have u0 := hid ((Upd.refl [] w2).drew)
  refine (net_state (HM.out.net.new u0.out) (i := 0) (by decide) OK0.out).mono ?_
  rintro e w3 ⟨v5, rfl, ho5, hu3⟩
  obtain ⟨l, hl⟩ : ∃ l, l = (s 0).rows := ⟨_, rfl⟩
  rw [← hl] at ho5
  obtain ⟨a5, k5, e5, hk5, hk5', -⟩ := own_view ho5
  subst e5
  obtain ⟨n, hn⟩ : ∃ n, n = l.length := ⟨_, rfl⟩
  rw [← hn] at ho5 hk5
  rw [← hn]
  have WFL := hid (show WF l by rw [hl]; exact OK0.out.wf)
  have RBL := hid (show RB l 150 by rw [hl]; exact OK0.out.rb.mono OK0.out.le)
  have hn7 : n ≤ 7 := by rw [hn]; exact WFL.out.few
  have HN := hid hn
  have HL := hid hl
  have HM3 := hid ((HM.out.new u0.out).more hu3 (blkOf a5) (own_blk ho5))
  have HO5 := hid (own_mono ho5 (b' := 0) (Nat.zero_le _))
  have c3 := HM3.out.ptr (show 0 < 2 by decide)
  clear ho5 hu3 u0 HM hn hl c0
  go_simp
  refine hK.out _ _ c3 ?_
  clear hK KK
  try simp only [List.setIfInBounds_toArray]
  refine J.J_one (i := 7) (by rfl) (by decide) (by kernel_rfl) (fun KK hK => ?_)
  go_simp
  refine (net_all HM3.out.net (i := 0) (by decide) OK0.out).mono ?_
  rintro e w4 ⟨v6, rfl, ho6, hu4⟩
  rw [← HL.out] at ho6
  obtain ⟨a6, k6, e6, hk6, hk6', -⟩ := own_view ho6
  subst e6
  obtain ⟨m, hm⟩ : ∃ m, m = (allOf l).length := ⟨_, rfl⟩
  have A6 := hid (nmAt_own ho6)
  rw [← hm] at ho6 hk6
  rw [← hm]
  have HAM := hid hm
  have hm7 : m ≤ 7 := by rw [hm]; have := allOf_le l; have := WFL.out.few; omega
  have HM4 := hid (HM3.out.more hu4 (blkOf a6) (own_blk ho6))
  have HO54 := hid (own_new HO5.out hu4)
  have c4 := HM4.out.ptr (show 0 < 2 by decide)
  clear ho6 hu4 HM3 HO5 hm c3
  go_simp
  refine hK.out _ _ c4 ?_
  clear hK KK
  try simp only [List.setIfInBounds_toArray]
  have HC4 := c4
  refine J.J_take (i := 8) (v := ?_) LAST (by rfl) (by decide) (by kernel_rfl) (by kernel_rfl) (by intro _ _ _ h; exact h) HC4 (Or.inl ⟨by rfl, ?_⟩) ?_
  rotate_left
  · intro w hSw; (try dsimp only at hSw); go_simp; try with_reducible rfl
  try simp only [Act.put, List.setIfInBounds_toArray, List.set_cons_zero, List.set_cons_succ]
  refine J.J_last (by rfl) (by kernel_rfl) (by kernel_rfl) ?_
  clear LAST HS c4 HC4
  go_simp
  go_wp2_with fail
  refine (new_any 5 w4 (by decide) (by decide)).mono ?_
  rintro e w5 ⟨F5, gx, rfl, i5, u5, f5⟩
  have HM5 := hid (HM4.out.add (by decide) u5 i5 f5)
  have HO55 := hid (own_new HO54.out u5)
  have A65 := hid (A6.out.new u5)
  clear i5 u5 f5 HM4 HO54 A6
  obtain ⟨G', hG⟩ : ∃ G', G' = upf g 2 gx := ⟨_, rfl⟩
  have ex : gx = G' 2 := by rw [hG, upf_at]
  rw [← hG] at HM5
  subst ex
  clear hG
  obtain ⟨s5, hs5⟩ : ∃ s5, s5 = upf s 2 (gnew 5) := ⟨_, rfl⟩
  rw [← hs5] at HM5
  have S5x := hid (show s5 2 = gnew 5 by rw [hs5, upf_at])
  have S50 := hid (show s5 0 = s 0 by rw [hs5, upf_ne _ _ _ _ (by decide)])
  clear hs5
  have CL := hid (clone_rows (l := l) (by have h := HO55.out; rw [HN.out] at h; exact h) (by have := WFL.out.few; omega))
  rw [← HN.out] at CL
  go_wp2_with fail
  refine CL.out.mono ?_
  rintro e w6 ⟨v7, rfl, ho7, hu6⟩
  obtain ⟨a7, k7, e7, hk7, hk7', -⟩ := own_view ho7
  subst e7
  have HO7 := hid ho7
  have U6 := hid hu6
  clear ho7 hu6 CL
  go_wp2_with (first | (at_builtin; refine wpList_zeros ?g1 (.tmp 32) (.const (.int .i64 3)) ?g2 w5.heap.size (.slice a7 n k7) n l ?g3 ?g4 HN.out ?g5 HO7.out U6.out.size ?_))
  case g1 => rfl
  case g2 => rfl
  case g3 => rfl
  case g4 => rfl
  case g5 => omega
  intro gi ci w7 q1 q2 q3 q4
  have q1' : (n : Int) ≤ (ci : Int) := by omega
  have hnci : n ≤ ci := by omega
  have O7 := hid q3
  have U7 := hid (U6.out.trans q4 (fun t ht => .inr (by rw [blkOf_own] at ht; exact (own_blk HO7.out t ht).1)))
  have hbi : w5.heap.size ≤ gi ∧ gi < w7.heap.size := own_blk q3 gi (by simp [blkOf])
  have HM7 := hid (HM5.out.more U7.out [gi] (fun z hz => by simp at hz; subst hz; exact hbi))
  have R7 := hid (rowAt_own (B := 0) (n := n) (k := k5) (a := a5) (l := l) (by rw [← HN.out]; exact own_new HO55.out U7.out))
  have A7 := hid (A65.out.new U7.out)
  have I7 := hid (rowAt_own (B := w5.heap.size) (n := n) (k := ci) (a := some ⟨gi, 0, none⟩) (l := l) (by rw [← HN.out]; exact q3))
  have L5 := hid (fun z (hz : z ∈ blkOf a5) => HM5.out.net.zlt z (List.mem_append.2 (.inr (List.mem_append.2 (.inl hz)))))
  have L6 := hid (fun z (hz : z ∈ blkOf a6) => HM5.out.net.zlt z (List.mem_append.2 (.inl hz)))
  have LQ := hid (HM5.out.net.zlt q HM5.out.qz)
  have LB := hid (Nat.le_trans HM5.out.low HM5.out.base)
  have HBI := hid hbi
  clear q3 q4 hbi HO7 U6 HM5 HO55 A65
  obtain ⟨Z, hZ⟩ : ∃ Z, Z = [gi] ++ (blkOf a6 ++ (blkOf a5 ++ [q])) := ⟨_, rfl⟩
  have Z5 := hid (show ∀ z ∈ blkOf a5, z ∈ Z from fun z hz => by rw [hZ]; simp [hz])
  have Z6 := hid (show ∀ z ∈ blkOf a6, z ∈ Z from fun z hz => by rw [hZ]; simp [hz])
  have ZI := hid (show gi ∈ Z by rw [hZ]; simp)
  rw [← hZ] at HM7
  clear hZ
  have MG := hid (mn_merge HM7.out (i := 2) (by decide) (b := 150) (by rw [S5x.out]; exact (Ok.new 5 (by decide) (by decide)).mono (by decide)) (by decide) (some ⟨gi, 0, none⟩) ci l WFL.out RBL.out I7.out)
  rw [← HN.out] at MG
  go_wp2_with fail
  refine MG.out.mono ?_
  rintro e w8 ⟨rfl, hm8, hf8⟩
  have HM8 := hid hm8
  have R8 := hid (R7.out.far hf8 Z5.out)
  have A8 := hid (A7.out.far hf8 Z6.out)
  have I8 := hid (I7.out.far hf8 (fun z hz => by simp [blkOf] at hz; rw [hz]; exact ZI.out))
  have O8 := hid (hf8.own O7.out (fun z hz => by simp [Value.ownBlock] at hz; rw [← hz]; exact ZI.out))
  clear hm8 hf8 HM7 R7 A7 I7 O7 MG
  obtain ⟨s8, hs8⟩ : ∃ s8, s8 = upf s5 2 (gmerge (s5 2) l) := ⟨_, rfl⟩
  rw [← hs8] at HM8
  have S8x := hid (show (s8 2).rows = l by rw [hs8, upf_at, S5x.out]; exact merge_new 5 WFL.out)
  have S80 := hid (show (s8 0).rows = l by rw [hs8, upf_ne _ _ _ _ (by decide), S50.out, HL.out])
  have K8x := hid (show Ok (s8 2) 150 by rw [hs8, upf_at, S5x.out]; exact ((Ok.new 5 (by decide) (by decide)).mono (by decide)).gmerge WFL.out RBL.out (Nat.le_refl _))
  have K80 := hid (show Ok (s8 0) 150 by rw [hs8, upf_ne _ _ _ _ (by decide), S50.out]; exact OK0.out)
  clear hs8 S5x S50
  have EQ := hid (equal_rows (some ⟨gi, 0, none⟩) a5 n ci k5 l w8 I8.out R8.out HN.out (by omega))
  go_wp2_with fail
  refine EQ.out.mono ?_
  rintro e w9 ⟨rfl, hu9⟩
  have HM9 := hid (HM8.out.new hu9)
  have R9 := hid (R8.out.new hu9)
  have A9 := hid (A8.out.new hu9)
  have B9 := blk_own (own_new O8.out hu9)
  have SP := hid (spoil_rows (some ⟨gi, 0, none⟩) n ci ⟨#[115, 112, 111, 105, 108, 116]⟩ 0 0 0 w9 B9 hnci q2)
  clear hu9 HM8 R8 A8 O8 I8 B9 EQ
  go_wp2_with fail
  refine SP.out.mono ?_
  rintro e w10 ⟨rfl, hu10⟩
  have hn5 : ∀ z ∈ blkOf a5, z ∉ blkOf (some ⟨gi, 0, none⟩) := fun z hz h => by
    simp [blkOf] at h
    have h1 := L5.out z hz
    have h2 := HBI.out.1
    omega
  have hn6 : ∀ z ∈ blkOf a6, z ∉ blkOf (some ⟨gi, 0, none⟩) := fun z hz h => by
    simp [blkOf] at h
    have h1 := L6.out z hz
    have h2 := HBI.out.1
    omega
  have HM10 := hid (HM9.out.keep hu10 (fun x hx => by
    simp [blkOf] at hx
    subst hx
    have h1 := LQ.out
    have h2 := HBI.out.1
    have h3 := LB.out
    exact ⟨ZI.out, by omega, by omega⟩))
  have R10 := hid (R9.out.upd hu10 (fun g e => hn5 g (mem_blkOf e)))
  have A10 := hid (A9.out.upd hu10 (fun g e => hn6 g (mem_blkOf e)))
  clear hu10 hn5 hn6 HM9 R9 A9 SP
  have c0 := HM10.out.ptr (show 0 < 2 by decide)
  have ST := hid (tell_rows HM10.out (i := 0) (by decide) K80.out S80.out)
  rw [← HN.out] at ST
  go_wp2_with fail
  refine ST.out.mono ?_
  rintro e w11 ⟨a11, c11, rfl, t1, t2, -, t3, t4, t5⟩
  have SP := hid (spoil_rows a11 n c11 ⟨#[]⟩ 0 0 0 w11 t3 t1 t2)
  have T4 := hid t4
  have T5 := hid t5
  clear t3 t4 t5 ST c0
  go_wp2_with fail
  refine SP.out.mono ?_
  rintro e w12 ⟨rfl, hu12⟩
  have U12 := hid (T4.out.trans hu12 (fun z hz => .inr (T5.out z hz)))
  have HM12 := hid (HM10.out.new U12.out)
  have R12 := hid (R10.out.new U12.out)
  have A12 := hid (A10.out.new U12.out)
  have c0 := HM12.out.ptr (show 0 < 2 by decide)
  clear hu12 U12 T4 T5 HM10 R10 A10 SP
  have ST := hid (tell_names HM12.out (i := 0) (by decide) K80.out S80.out)
  rw [← HAM.out] at ST
  go_wp2_with fail
  refine ST.out.mono ?_
  rintro e w13 ⟨a13, c13, rfl, t1', t2', -, t3, t4, t5⟩
  have SP := hid (spoil_names a13 m c13 ⟨#[]⟩ 0 w13 t3 t1' t2')
  have T4 := hid t4
  have T5 := hid t5
  clear t3 t4 t5 ST c0
  go_wp2_with fail
  refine SP.out.mono ?_
  rintro e w14 ⟨rfl, hu14⟩
  have U14 := hid (T4.out.trans hu14 (fun z hz => .inr (T5.out z hz)))
  have HM14 := hid (HM12.out.new U14.out)
  have R14 := hid (R12.out.new U14.out)
  have A14 := hid (A12.out.new U14.out)
  clear hu14 U14 T4 T5 HM12 R12 A12 SP
  have ST := hid (tell_rows HM14.out (i := 2) (by decide) K8x.out S8x.out)
  rw [← HN.out] at ST
  go_wp2_with fail
  refine ST.out.mono ?_
  rintro e w15 ⟨a15, c15, rfl, -, -, t2, -, t4, -⟩
  have EQ := hid (equal_rows a15 a5 n c15 k5 l w15 t2 (R14.out.new t4) HN.out (by omega))
  have T4 := hid t4
  clear t2 t4 ST
  go_wp2_with fail
  refine EQ.out.mono ?_
  rintro e w16 ⟨rfl, hu16⟩
  have U16 := hid (T4.out.trans hu16 (fun z hz => by cases hz))
  have HM16 := hid (HM14.out.new U16.out)
  have R16 := hid (R14.out.new U16.out)
  have A16 := hid (A14.out.new U16.out)
  have c0 := HM16.out.ptr (show 0 < 2 by decide)
  clear hu16 U16 T4 HM14 R14 A14 EQ
  have ST := hid (tell_rows HM16.out (i := 0) (by decide) K80.out S80.out)
  rw [← HN.out] at ST
  go_wp2_with fail
  refine ST.out.mono ?_
  rintro e w17 ⟨a17, c17, rfl, -, -, t2, -, t4, -⟩
  have EQ := hid (equal_rows a17 a5 n c17 k5 l w17 t2 (R16.out.new t4) HN.out (by omega))
  have T4 := hid t4
  clear t2 t4 ST c0
  go_wp2_with fail
  refine EQ.out.mono ?_
  rintro e w18 ⟨rfl, hu18⟩
  have U18 := hid (T4.out.trans hu18 (fun z hz => by cases hz))
  have HM18 := hid (HM16.out.new U18.out)
  have A18 := hid (A16.out.new U18.out)
  have c0 := HM18.out.ptr (show 0 < 2 by decide)
  clear hu18 U18 T4 HM16 R16 A16 EQ
  have ST := hid (tell_names HM18.out (i := 0) (by decide) K80.out S80.out)
  rw [← HAM.out] at ST
  go_wp2_with fail
  refine ST.out.mono ?_
  rintro e w19 ⟨a19, c19, rfl, -, -, t2, -, t4, -⟩
  have EQ := hid (equal_names a19 a6 m c19 k6 (allOf l) w19 t2 (A18.out.new t4) HAM.out (by omega))
  have T4 := hid t4
  clear t2 t4 ST c0
  go_wp2_with fail
  refine EQ.out.mono ?_
  rintro e w20 ⟨rfl, hu20⟩
  have U20 := hid (T4.out.trans hu20 (fun z hz => by cases hz))
  have HM20 := hid (HM18.out.new U20.out)
  clear hu20 U20 T4 HM18 A18 EQ
  go_wp2_with fail
  go_ret
  exact ⟨rfl, HM20.out.upd⟩
end Go.Proofs.YtbkhjmdklghbiaaDoor.Nm
