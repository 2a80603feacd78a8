/- Names: register. -/
import Derived.Test.YtbkhjmdklghbiaaDoorNk
import Derived.Laws.IdiomStrings
namespace Go.Proofs.YtbkhjmdklghbiaaDoor.Nm
open Go Go.RowKit Go.Proofs.YtbkhjmdklghbiaaDoor Go.Proofs.YtbkhjmdklghbiaaDoor.K Go.Proofs.YtbkhjmdklghbiaaDoor.M Go.Proofs.YtbkhjmdklghbiaaDoor.O Go.Proofs.YtbkhjmdklghbiaaDoor.R

/-- A node of some that play together. -/
structure Nd (s : G) (i b : Nat) : Prop where
  ok : Ok s b
  me : s.me = i + 1
  zz : ∀ x ∈ s.rows, x.name ≠ 6
theorem Nd.mono {s : G} {i b b' : Nat} (h : Nd s i b) (hb : b ≤ b') : Nd s i b' := ⟨h.ok.mono hb, h.me, h.zz⟩
theorem Nd.gset {s : G} {i b t r : Nat} (h : Nd s i b) (ht : t < 6) : Nd (gset s t r) i (b + 1) := ⟨h.ok.gset (by omega), h.me, fun x hx => by
  rcases (mem_rput h.ok.wf).1 hx with rfl | ⟨hx, -⟩
  · show t ≠ 6; omega
  · exact h.zz x hx⟩
theorem Nd.gdrop {s : G} {i b t : Nat} (h : Nd s i b) (ht : t < 6) : Nd (gdrop s t) i (b + 1) := by
  unfold Nm.gdrop
  split
  · exact h.mono (by omega)
  · exact h.gset ht
theorem Nd.gmerge {s s' : G} {i i' b : Nat} (h : Nd s i b) (h' : Nd s' i' b) : Nd (gmerge s s'.rows) i b := ⟨h.ok.gmerge h'.ok.wf h'.ok.rb h'.ok.le, h.me, fun x hx => by
  rcases mem_rmerge _ h.ok.wf (fun y hy => h'.ok.wf.keys' hy) hx with q | q
  · exact h.zz x q
  · exact h'.zz x q⟩
/-- Nodes that play together, and the row of their pointers. -/
def RegAt (B n : Nat) (w : World) (v : Value) (b : Nat) : Prop := ∃ g s, w.ownsRow B 28 1 v n (ptrs g n) ∧ Net B v.ownBlock.toList n w g s ∧ ∀ i, i < n → Nd (s i) i b
def codeOf (r : Nat) : Nat := if r = 0 then 0 else r + 1
theorem code_lt {r : Nat} (h : r < 5) : codeOf r < 6 := by unfold codeOf; split <;> omega
theorem code_str : ∀ r < 5, nmS (codeOf r) = ⟨#[UInt8.ofNat (97 + r)]⟩ := by decide +kernel

set_option maxHeartbeats 16000000 in
set_option maxRecDepth 100000 in
theorem register_any (n : Nat) (a : Option Addr) (len cap : Nat) (xs : List Int) (w : World) (h1 : 1 ≤ n) (h8 : n ≤ 8) (hx : IntRow w a xs) (hl : xs.length = len) (hlc : len ≤ cap) (hc : cap ≤ 9223372036854775807) :
    Calls Tryd.prog 9 #[.int .i64 (n : Int), .slice a len cap] w fun e w' => ∃ v, e = .returned (.tuple #[v, .bool true]) ∧ RegAt w.heap.size n w' v 150 ∧ Upd [] w w' := by
  obtain ⟨i28, hi28, hz28a, hz28b, hz28c⟩ := info_parts info28
  have HI28 := hid hi28
  have HA28 := hid hz28a
  have HB28 := hid hz28b
  have HC28 := hid hz28c
  have HX := hid hx
  have HL := hid hl
  clear hi28 hz28a hz28b hz28c hx hl
  obtain ⟨B, hB⟩ : ∃ B, B = w.heap.size := ⟨_, rfl⟩
  have HBS := hid hB
  rw [← hB]
  clear hB
  obtain ⟨m, hm⟩ : ∃ m : Nat, min (len : Int) 150 = (m : Int) := ⟨min len 150, by omega⟩
  have hmin := fun ats ty => min_nat ats ty .i64 .i64 (len : Int) 150 m hm
  have hm1 : m ≤ len := by omega
  have hm2 : m ≤ 150 := by omega
  have sl1 : (m : Int) ≤ (cap : Int) := by omega
  have sl2 : (m : Int) ≤ (len : Int) := by omega
  clear hm
  go_enter Tryd.func9, Tryd.ntmps9
  go_wp2_with fail
  go_loopg [6, 15] n (fun d v6 v15 wr => ∃ (j : Nat) (g : Nat → Nat), v15 = .int .i64 (j : Int) ∧ j ≤ n ∧ Hid (j + d = n) ∧ Hid (wr.ownsRow B 28 1 v6 j (ptrs g j)) ∧ Hid (Net B v6.ownBlock.toList j wr g (fun i => gnew (i + 1))) ∧ Hid (Upd [] w wr))
  case atStart => exact ⟨0, fun _ => 0, rfl, by omega, hid (by omega), hid (World.ownsRow_nil _ _ _ _), hid (Net.nil _ _ _ _), hid (Upd.refl _ _)⟩
  case round =>
    obtain ⟨j, g, rfl, hj, Hd, H6, HN, HU⟩ := hrel
    by_cases hjn : j < n
    · have hj' : (j : Int) < (n : Int) := by omega
      obtain ⟨me, hme⟩ : ∃ me, me = j + 1 := ⟨_, rfl⟩
      have hw : IntKind.i64.wrap ((j : Int) + 1) = (me : Int) := by rw [IntWalk.i64_in _ (by omega)]; omega
      have NW := hid (fun wz => new_any me wz (by omega) (by omega))
      have HME := hid hme
      clear hme
      go_wp2_with fail
      refine (NW.out _).mono ?_
      rintro e w1 ⟨F1, g1, rfl, hg1, hu1, hf1⟩
      have HG1 := hid hg1
      have HU1 := hid hu1
      have HF1 := hid hf1
      clear hg1 hu1 hf1
      obtain ⟨a6, k6, e6, -⟩ := own_view H6.out
      obtain ⟨w2, hw2⟩ : ∃ w2, w2 = w1.alloc (.cells #[.pointer (some ⟨g1, 0, none⟩)] 28) := ⟨_, rfl⟩
      have u2 := hid (show Upd [] w1 w2 by rw [hw2]; exact (Upd.refl [] w1).alloc _)
      have ZB := hid (show w2.heap[w1.heap.size]? = some (.cells #[.pointer (some ⟨g1, 0, none⟩)] 28 (0, 0)) by rw [hw2]; exact K.blk_new w1 _)
      have OW6 := hid (own_new (own_new H6.out HU1.out) u2.out)
      have BW := hid (show B ≤ w2.heap.size from by have h1 := HU.out.size; have h2 := HU1.out.size; have h3 := u2.out.size; have := HBS.out; omega)
      have HW2 := hid hw2
      subst e6
      clear hw2
      go_wp2_with (first | (at_builtin; rw [← HW2.out]; refine wpList_append_own_at (w := w2) rfl (.tmp 30) (.tmp 32) 24 rfl B 28 i28 _ 1 8 Tryd.underlying24 HI28.out HA28.out HB28.out HC28.out rfl (by decide) (.slice a6 j k6) j (ptrs g j) rfl OW6.out ⟨w1.heap.size, 0, none⟩ 1 1 [.pointer (some ⟨g1, 0, none⟩)] rfl rfl (fun jj u hjj => by rw [addl]; refine (K.blk_cell ZB.out jj).trans ?_; simpa using hjj) (by intro u hu; simp at hu; subst hu; rfl) (by unfold maxLen; omega) (by omega) BW.out ?_; intro v6' w3 q1 q2 _ q4; have O6 := hid q1; have U6 := hid ((Upd.refl (Value.slice a6 j k6).ownBlock.toList w2).grown q2 (fun k hk => Or.inl (by simp [hk]))); have L6 := hid q4; clear q1 q2 q4))
      go_roundg (n - (j + 1))
      case measure => have := Hd.out; omega
      case rel =>
        have hBr : B ≤ wr.heap.size := by have := HU.out.size; have := HBS.out; omega
        have A1 := (HN.out.add HU1.out hBr HG1.out HF1.out).new u2.out
        have A2 := A1.turn (Z' := v6'.ownBlock.toList) U6.out (fun x hx => hx) (fun z hz => by
          have q' : v6'.ownBlock = some z := by simpa using hz
          refine ⟨?_, own_lt O6.out z q'⟩
          rcases L6.out with e | e
          · exact .inl (by rw [← e]; exact hz)
          · right
            have := e.symm.trans q'
            simp at this; omega)
        refine ⟨j + 1, upf g j g1, by rw [HME.out], by omega, hid (by omega), hid ?_, hid ?_, hid ?_⟩
        · rw [ptrs_snoc]; exact O6.out
        · refine A2.ext (fun i _ => rfl) (fun i hi => ?_)
          by_cases e : i = j
          · subst e; rw [upf_at, HME.out]
          · rw [upf_ne _ _ _ _ e]
        · exact ((HU.out.trans HU1.out (fun x hx => by cases hx)).trans u2.out (fun x hx => by cases hx)).trans U6.out (fun x hx => .inr (by rw [← HBS.out]; exact own_ge H6.out x (by simpa using hx)))
    · have hj' : ¬ (j : Int) < (n : Int) := by omega
      obtain rfl : j = n := by omega
      obtain ⟨a6, k6, e6, -⟩ := own_view H6.out
      subst e6
      clear hj hjn Hd
      go_wp2_with fail
      go_loopg [41] m (fun d v41 wz => ∃ (r : Nat) (s : Nat → G), v41 = .int .i64 (r : Int) ∧ r ≤ m ∧ Hid (r + d = m) ∧ Hid (wz.ownsRow B 28 1 (.slice a6 j k6) j (ptrs g j)) ∧ Hid (Net B (Value.slice a6 j k6).ownBlock.toList j wz g s) ∧ Hid (∀ i, i < j → Nd (s i) i r) ∧ Hid (Upd [] w wz))
      case atStart => exact ⟨0, _, rfl, by omega, hid (by omega), H6, HN, hid (fun i hi => ⟨Ok.new (i + 1) (by omega) (by omega), rfl, fun x hx => by simp [gnew] at hx⟩), HU⟩
      case round =>
        clear HN HU H6
        obtain ⟨r, s, rfl, hr, Hd, H6, HN, HS, HU⟩ := hrel
        by_cases hrm : r < m
        · have hr' : (r : Int) < (m : Int) := by omega
          obtain ⟨xa, rfl, hcx⟩ := (HX.out.upd HU.out) r (by rw [HL.out]; omega)
          obtain ⟨z, hz⟩ : ∃ z, z = xs.getD r 0 := ⟨_, rfl⟩
          rw [← hz] at hcx
          clear hz
          go_upto_region 13 with (fail)
          refine J.J_begin (fun _ => True) 12 (by kernel_rfl) ⟨by kernel_rfl, by kernel_rfl, by kernel_rfl⟩ trivial (fun LAST HS0 => ?_)
          refine J.J_take (i := 0) (v := ?_) LAST (by rfl) (by decide) (by kernel_rfl) (by kernel_rfl) (by intro _ _ _ h; exact h) HS0 (Or.inl ⟨by rfl, ?_⟩) ?_
          rotate_left
          · intro w hSw; (try dsimp only at hSw); go_simp; try with_reducible rfl
          try simp only [Act.put, List.setIfInBounds_toArray, List.set_cons_zero, List.set_cons_succ]
          refine J.J_take (i := 1) (v := ?_) LAST (by rfl) (by decide) (by kernel_rfl) (by kernel_rfl) (by intro _ _ _ h; exact h) HS0 (Or.inl ⟨by rfl, ?_⟩) ?_
          rotate_left
          · intro w hSw; (try dsimp only at hSw); go_simp; try with_reducible rfl
          try simp only [Act.put, List.setIfInBounds_toArray, List.set_cons_zero, List.set_cons_succ]
          refine J.J_take (i := 2) (v := ?_) LAST (by rfl) (by decide) (by kernel_rfl) (by kernel_rfl) (by intro _ _ _ h; exact h) HS0 (Or.inl ⟨by rfl, ?_⟩) ?_
          rotate_left
          · intro w hSw; (try dsimp only at hSw); go_simp; try with_reducible rfl
          try simp only [Act.put, List.setIfInBounds_toArray, List.set_cons_zero, List.set_cons_succ]
          refine J.J_take (i := 4) (v := ?_) LAST (by rfl) (by decide) (by kernel_rfl) (by kernel_rfl) (by intro _ _ _ h; exact h) HS0 (Or.inl ⟨by rfl, ?_⟩) ?_
          rotate_left
          · intro w hSw; (try dsimp only at hSw); go_simp; try with_reducible rfl
          try simp only [Act.put, List.setIfInBounds_toArray, List.set_cons_zero, List.set_cons_succ]
          refine J.J_take (i := 5) (v := ?_) LAST (by rfl) (by decide) (by kernel_rfl) (by kernel_rfl) (by intro _ _ _ h; exact h) HS0 (Or.inl ⟨by rfl, ?_⟩) ?_
          rotate_left
          · intro w hSw; (try dsimp only at hSw); go_simp; try with_reducible rfl
          try simp only [Act.put, List.setIfInBounds_toArray, List.set_cons_zero, List.set_cons_succ]
          refine J.J_one (i := 3) (by rfl) (by decide) (by kernel_rfl) (fun KK hK => ?_)
          go_simp
          refine (rest_some _ _ _ (by omega) (by omega)).mono ?_
          rintro e w' ⟨i, hi, -, rfl, rfl⟩
          go_simp
          refine hK.out _ _ trivial ?_
          clear hK KK
          try simp only [List.setIfInBounds_toArray]
          refine J.J_one (i := 6) (by rfl) (by decide) (by kernel_rfl) (fun KK hK => ?_)
          go_simp
          refine (rest_some _ _ _ (by omega) (by omega)).mono ?_
          rintro e w' ⟨t, ht, -, rfl, rfl⟩
          go_simp
          refine hK.out _ _ trivial ?_
          clear hK KK
          try simp only [List.setIfInBounds_toArray]
          have hu1 : IntKind.u8.wrap (t : Int) = (t : Int) := by rw [IntKind.wrap_u8]; omega
          have hu2 : IntKind.u8.wrap (97 + (t : Int)) = 97 + (t : Int) := by rw [IntKind.wrap_u8]; omega
          refine J.J_take (i := 11) (v := ?_) LAST (by rfl) (by decide) (by kernel_rfl) (by kernel_rfl) (by intro _ _ _ h; exact h) HS0 (Or.inl ⟨by rfl, ?_⟩) ?_
          rotate_left
          · intro w hSw; (try dsimp only at hSw); go_simp; try with_reducible rfl
          try simp only [Act.put, List.setIfInBounds_toArray, List.set_cons_zero, List.set_cons_succ]
          refine J.J_take (i := 7) (v := ?_) LAST (by rfl) (by decide) (by kernel_rfl) (by kernel_rfl) (by intro _ _ _ h; exact h) HS0 (Or.inl ⟨by rfl, ?_⟩) ?_
          rotate_left
          · intro w hSw; (try dsimp only at hSw); go_simp; try with_reducible rfl
          try simp only [Act.put, List.setIfInBounds_toArray, List.set_cons_zero, List.set_cons_succ]
          refine J.J_take (i := 8) (v := ?_) LAST (by rfl) (by decide) (by kernel_rfl) (by kernel_rfl) (by intro _ _ _ h; exact h) HS0 (Or.inl ⟨by rfl, ?_⟩) ?_
          rotate_left
          · intro w hSw; (try dsimp only at hSw); go_simp; try with_reducible rfl
          try simp only [Act.put, List.setIfInBounds_toArray, List.set_cons_zero, List.set_cons_succ]
          refine J.J_one (i := 9) (by rfl) (by decide) (by kernel_rfl) (fun KK hK => ?_)
          go_simp
          have ht5 : t < 5 := by omega
          have CV := hid (run_convert_bytes_back (P := Tryd.prog) (wr.alloc (.cells #[.int .u8 (97 + (t : Int))] 5)).drew 53 9 5 ⟨wr.heap.size, 0, none⟩ 1 [UInt8.ofNat (97 + t)] Tryd.underlying53 Tryd.underlying5 Tryd.underlying9 (fun jj hjj => by
            have e : jj = 0 := by simpa using hjj
            subst e
            have hc := K.blk_cell (K.blk_new wr (.cells #[.int .u8 (97 + (t : Int))] 5)) 0
            have hn : (UInt8.ofNat (97 + t)).toNat = 97 + t := by rw [UInt8.toNat_ofNat']; omega
            show (wr.alloc (.cells #[.int .u8 (97 + (t : Int))] 5)).cell? ⟨wr.heap.size, 0, none⟩ = _
            rw [hc]
            show some (Value.int .u8 (97 + (t : Int))) = some (.int .u8 (((UInt8.ofNat (97 + t)).toNat : Nat) : Int))
            rw [hn]
            congr 2))
          refine hK.out _ _ trivial ?_
          clear hK KK
          try simp only [List.setIfInBounds_toArray]
          refine J.J_one (i := 10) (by rfl) (by decide) (by kernel_rfl) (fun KK hK => ?_)
          go_simp
          obtain ⟨st, hst⟩ : ∃ st, st = (⟨[UInt8.ofNat (97 + t)].toArray⟩ : ByteArray) := ⟨_, rfl⟩
          have cv := CV.out
          simp only [List.length_singleton] at cv
          rw [← hst] at cv
          have HSTT := hid hst
          clear hst
          rw [cv]
          go_simp
          refine hK.out _ _ trivial ?_
          clear hK KK cv CV
          try simp only [List.setIfInBounds_toArray]
          refine J.J_last (by rfl) (by kernel_rfl) (by kernel_rfl) ?_
          clear LAST HS0 hu1 hu2 ht
          have hcs : (⟨[UInt8.ofNat (97 + t)].toArray⟩ : ByteArray) = nmS (codeOf t) := (code_str t ht5).symm
          have hct := code_lt ht5
          obtain ⟨cd, hcd⟩ : ∃ cd, cd = codeOf t := ⟨_, rfl⟩
          rw [← hcd] at hcs hct
          obtain ⟨w2, hw2⟩ : ∃ w2, w2 = (wr.alloc (.cells #[.int .u8 (97 + (t : Int))] 5)).drew := ⟨_, rfl⟩
          rw [← HSTT.out] at hcs
          have u2 := hid (show Upd [] wr w2 by rw [hw2]; exact ((Upd.refl [] wr).alloc _).drew)
          have U2 := hid (HU.out.trans u2.out (fun t ht => by cases ht))
          have H62 := hid (own_new H6.out u2.out)
          have HN2 := hid (HN.out.new u2.out)
          have HCS := hid hcs
          rw [← hw2]
          clear HSTT hw2 hcd u2 HU H6 HN hcs hcx ht5
          go_simp
          go_wp2_with fail
          refine (rest_some _ _ _ (by omega) (by omega)).mono ?_
          rintro e w' ⟨q, hq, -, rfl, rfl⟩
          obtain ⟨gv, kv, ev, cgv⟩ := ptr_at H62.out (i := i) (by omega)
          simp only [Value.slice.injEq] at ev
          obtain ⟨rfl, -, rfl⟩ := ev
          have hij : (i : Int) < (j : Int) := by omega
          have hi7 : i < j := by omega
          have hq8 : q = 0 ∨ q = 1 ∨ q = 2 ∨ q = 3 ∨ (q ≠ 0 ∧ q ≠ 1 ∧ q ≠ 2 ∧ q ≠ 3) := by omega
          have BW := hid (show B ≤ w2.heap.size by have h1 := U2.out.size; have := HBS.out; omega)
          clear hi hq
          rcases hq8 with rfl | rfl | rfl | rfl | ⟨q0, q1, q2, q3⟩
          · go_upto_region 20 with (fail)
            obtain ⟨F, hg, hF, ST⟩ := (HN2.out.new ((Upd.refl [] w2).drew)).step hi7
            have HG := hid hg
            have HST := hid ST
            clear hg hF ST
            refine J.J_begin (fun wz => wz.cell? ⟨gv, i, none⟩ = some (.pointer (some ⟨g i, 0, none⟩))) 10 (by kernel_rfl) ⟨by kernel_rfl, by kernel_rfl, by kernel_rfl⟩ cgv (fun LAST HS1 => ?_)
            refine J.J_take (i := 0) (v := ?_) LAST (by rfl) (by decide) (by kernel_rfl) (by kernel_rfl) (by intro _ _ _ h; exact h) HS1 (Or.inl ⟨by rfl, ?_⟩) ?_
            rotate_left
            · intro w hSw; (try dsimp only at hSw); go_simp; try with_reducible rfl
            try simp only [Act.put, List.setIfInBounds_toArray, List.set_cons_zero, List.set_cons_succ]
            refine J.J_take (i := 1) (v := ?_) LAST (by rfl) (by decide) (by kernel_rfl) (by kernel_rfl) (by intro _ _ _ h; exact h) HS1 (Or.inl ⟨by rfl, ?_⟩) ?_
            rotate_left
            · intro w hSw; (try dsimp only at hSw); go_simp; try with_reducible rfl
            try simp only [Act.put, List.setIfInBounds_toArray, List.set_cons_zero, List.set_cons_succ]
            refine J.J_take (i := 2) (v := ?_) LAST (by rfl) (by decide) (by kernel_rfl) (by kernel_rfl) (by intro _ _ _ h; exact h) HS1 (Or.inl ⟨by rfl, ?_⟩) ?_
            rotate_left
            · intro w hSw; (try dsimp only at hSw); go_simp; try with_reducible rfl
            try simp only [Act.put, List.setIfInBounds_toArray, List.set_cons_zero, List.set_cons_succ]
            refine J.J_take (i := 3) (v := ?_) LAST (by rfl) (by decide) (by kernel_rfl) (by kernel_rfl) (by intro _ _ _ h; exact h) HS1 (Or.inl ⟨by rfl, ?_⟩) ?_
            rotate_left
            · intro w hSw; (try dsimp only at hSw); go_simp; try with_reducible rfl
            try simp only [Act.put, List.setIfInBounds_toArray, List.set_cons_zero, List.set_cons_succ]
            refine J.J_take (i := 4) (v := ?_) LAST (by rfl) (by decide) (by kernel_rfl) (by kernel_rfl) (by intro _ _ _ h; exact h) HS1 (Or.inl ⟨by rfl, ?_⟩) ?_
            rotate_left
            · intro w hSw; (try dsimp only at hSw); go_simp; try with_reducible rfl
            try simp only [Act.put, List.setIfInBounds_toArray, List.set_cons_zero, List.set_cons_succ]
            refine J.J_take (i := 5) (v := ?_) LAST (by rfl) (by decide) (by kernel_rfl) (by kernel_rfl) (by intro _ _ _ h; exact h) HS1 (Or.inl ⟨by rfl, ?_⟩) ?_
            rotate_left
            · intro w hSw; (try dsimp only at hSw); go_simp; try with_reducible rfl
            try simp only [Act.put, List.setIfInBounds_toArray, List.set_cons_zero, List.set_cons_succ]
            refine J.J_take (i := 6) (v := ?_) LAST (by rfl) (by decide) (by kernel_rfl) (by kernel_rfl) (by intro _ _ _ h; exact h) HS1 (Or.inl ⟨by rfl, ?_⟩) ?_
            rotate_left
            · intro w hSw; (try dsimp only at hSw); go_simp; try with_reducible rfl
            try simp only [Act.put, List.setIfInBounds_toArray, List.set_cons_zero, List.set_cons_succ]
            refine J.J_one (i := 7) (by rfl) (by decide) (by kernel_rfl) (fun KK hK => ?_)
            go_simp
            refine (rest_some _ _ _ (by omega) (by omega)).mono ?_
            rintro e w' ⟨rf, hrf, -, rfl, rfl⟩
            go_simp
            refine hK.out _ _ HS1 ?_
            clear hK KK
            try simp only [List.setIfInBounds_toArray]
            obtain ⟨rr, hrr⟩ : ∃ rr : Nat, rr = 1 + rf := ⟨_, rfl⟩
            have hw : IntKind.i64.wrap (1 + (rf : Int)) = (rr : Int) := by rw [IntWalk.i64_in _ (by omega)]; omega
            have hr1 : 1 ≤ rr := by omega
            clear hrr
            refine J.J_take (i := 8) (v := ?_) LAST (by rfl) (by decide) (by kernel_rfl) (by kernel_rfl) (by intro _ _ _ h; exact h) HS1 (Or.inl ⟨by rfl, ?_⟩) ?_
            rotate_left
            · intro w hSw; (try dsimp only at hSw); go_simp; try with_reducible rfl
            try simp only [Act.put, List.setIfInBounds_toArray, List.set_cons_zero, List.set_cons_succ]
            refine J.J_one (i := 9) (by rfl) (by decide) (by kernel_rfl) (fun KK hK => ?_)
            go_simp
            have SS := Set_any HG.out (HS.out i hi7).ok.wf cd rr (by omega) hr1 (by have := (HS.out i hi7).ok.le; omega)
            rw [← HCS.out] at SS
            have SS' := hid SS
            clear SS
            refine SS'.out.mono ?_
            rintro e w4 ⟨rfl, F', m1, m2, m3⟩
            obtain ⟨n1, n2⟩ := HST.out w4 F' _ m1 m2 m3 BW.out
            have HN4 := hid n1
            have HF4 := hid n2
            have H64 := hid (n2.own (own_new H62.out ((Upd.refl [] w2).drew)) (fun x hx => by simpa using hx))
            have HS4 : w4.cell? ⟨gv, i, none⟩ = some (.pointer (some ⟨g i, 0, none⟩)) := by
              obtain ⟨q', k', e', c'⟩ := ptr_at H64.out hi7
              cases e'
              exact c'
            clear m1 m2 m3 n1 n2 HST SS'
            go_simp
            refine hK.out _ _ HS4 ?_
            clear hK KK
            try simp only [List.setIfInBounds_toArray]
            refine J.J_last (by rfl) (by kernel_rfl) (by kernel_rfl) ?_
            clear LAST HS1 HS4
            go_simp
            go_wp2_with fail
            go_roundg (m - (r + 1))
            case measure => have := Hd.out; omega
            case rel =>
              refine ⟨r + 1, upf s i (gset (s i) cd rr), by go_num, by omega, hid (by omega), H64, HN4, hid (fun z hz => ?_), hid (HF4.out.upd HBS.out (U2.out.drew))⟩
              by_cases e : z = i
              · subst e; rw [upf_at]; exact (HS.out _ hz).gset hct
              · rw [upf_ne _ _ _ _ e]; exact (HS.out z hz).mono (by omega)
          · go_upto_region 20 with (fail)
            obtain ⟨F, hg, hF, ST⟩ := (HN2.out.new ((Upd.refl [] w2).drew)).step hi7
            have HG := hid hg
            have HST := hid ST
            clear hg hF ST
            refine J.J_begin (fun wz => wz.cell? ⟨gv, i, none⟩ = some (.pointer (some ⟨g i, 0, none⟩))) 10 (by kernel_rfl) ⟨by kernel_rfl, by kernel_rfl, by kernel_rfl⟩ cgv (fun LAST HS1 => ?_)
            refine J.J_take (i := 0) (v := ?_) LAST (by rfl) (by decide) (by kernel_rfl) (by kernel_rfl) (by intro _ _ _ h; exact h) HS1 (Or.inl ⟨by rfl, ?_⟩) ?_
            rotate_left
            · intro w hSw; (try dsimp only at hSw); go_simp; try with_reducible rfl
            try simp only [Act.put, List.setIfInBounds_toArray, List.set_cons_zero, List.set_cons_succ]
            refine J.J_take (i := 1) (v := ?_) LAST (by rfl) (by decide) (by kernel_rfl) (by kernel_rfl) (by intro _ _ _ h; exact h) HS1 (Or.inl ⟨by rfl, ?_⟩) ?_
            rotate_left
            · intro w hSw; (try dsimp only at hSw); go_simp; try with_reducible rfl
            try simp only [Act.put, List.setIfInBounds_toArray, List.set_cons_zero, List.set_cons_succ]
            refine J.J_take (i := 2) (v := ?_) LAST (by rfl) (by decide) (by kernel_rfl) (by kernel_rfl) (by intro _ _ _ h; exact h) HS1 (Or.inl ⟨by rfl, ?_⟩) ?_
            rotate_left
            · intro w hSw; (try dsimp only at hSw); go_simp; try with_reducible rfl
            try simp only [Act.put, List.setIfInBounds_toArray, List.set_cons_zero, List.set_cons_succ]
            refine J.J_take (i := 3) (v := ?_) LAST (by rfl) (by decide) (by kernel_rfl) (by kernel_rfl) (by intro _ _ _ h; exact h) HS1 (Or.inl ⟨by rfl, ?_⟩) ?_
            rotate_left
            · intro w hSw; (try dsimp only at hSw); go_simp; try with_reducible rfl
            try simp only [Act.put, List.setIfInBounds_toArray, List.set_cons_zero, List.set_cons_succ]
            refine J.J_take (i := 4) (v := ?_) LAST (by rfl) (by decide) (by kernel_rfl) (by kernel_rfl) (by intro _ _ _ h; exact h) HS1 (Or.inl ⟨by rfl, ?_⟩) ?_
            rotate_left
            · intro w hSw; (try dsimp only at hSw); go_simp; try with_reducible rfl
            try simp only [Act.put, List.setIfInBounds_toArray, List.set_cons_zero, List.set_cons_succ]
            refine J.J_take (i := 5) (v := ?_) LAST (by rfl) (by decide) (by kernel_rfl) (by kernel_rfl) (by intro _ _ _ h; exact h) HS1 (Or.inl ⟨by rfl, ?_⟩) ?_
            rotate_left
            · intro w hSw; (try dsimp only at hSw); go_simp; try with_reducible rfl
            try simp only [Act.put, List.setIfInBounds_toArray, List.set_cons_zero, List.set_cons_succ]
            refine J.J_take (i := 6) (v := ?_) LAST (by rfl) (by decide) (by kernel_rfl) (by kernel_rfl) (by intro _ _ _ h; exact h) HS1 (Or.inl ⟨by rfl, ?_⟩) ?_
            rotate_left
            · intro w hSw; (try dsimp only at hSw); go_simp; try with_reducible rfl
            try simp only [Act.put, List.setIfInBounds_toArray, List.set_cons_zero, List.set_cons_succ]
            refine J.J_one (i := 7) (by rfl) (by decide) (by kernel_rfl) (fun KK hK => ?_)
            go_simp
            refine (rest_some _ _ _ (by omega) (by omega)).mono ?_
            rintro e w' ⟨rf, hrf, -, rfl, rfl⟩
            go_simp
            refine hK.out _ _ HS1 ?_
            clear hK KK
            try simp only [List.setIfInBounds_toArray]
            obtain ⟨rr, hrr⟩ : ∃ rr : Nat, rr = 1 + rf := ⟨_, rfl⟩
            have hw : IntKind.i64.wrap (1 + (rf : Int)) = (rr : Int) := by rw [IntWalk.i64_in _ (by omega)]; omega
            have hr1 : 1 ≤ rr := by omega
            clear hrr
            refine J.J_take (i := 8) (v := ?_) LAST (by rfl) (by decide) (by kernel_rfl) (by kernel_rfl) (by intro _ _ _ h; exact h) HS1 (Or.inl ⟨by rfl, ?_⟩) ?_
            rotate_left
            · intro w hSw; (try dsimp only at hSw); go_simp; try with_reducible rfl
            try simp only [Act.put, List.setIfInBounds_toArray, List.set_cons_zero, List.set_cons_succ]
            refine J.J_one (i := 9) (by rfl) (by decide) (by kernel_rfl) (fun KK hK => ?_)
            go_simp
            have SS := Set_any HG.out (HS.out i hi7).ok.wf cd rr (by omega) hr1 (by have := (HS.out i hi7).ok.le; omega)
            rw [← HCS.out] at SS
            have SS' := hid SS
            clear SS
            refine SS'.out.mono ?_
            rintro e w4 ⟨rfl, F', m1, m2, m3⟩
            obtain ⟨n1, n2⟩ := HST.out w4 F' _ m1 m2 m3 BW.out
            have HN4 := hid n1
            have HF4 := hid n2
            have H64 := hid (n2.own (own_new H62.out ((Upd.refl [] w2).drew)) (fun x hx => by simpa using hx))
            have HS4 : w4.cell? ⟨gv, i, none⟩ = some (.pointer (some ⟨g i, 0, none⟩)) := by
              obtain ⟨q', k', e', c'⟩ := ptr_at H64.out hi7
              cases e'
              exact c'
            clear m1 m2 m3 n1 n2 HST SS'
            go_simp
            refine hK.out _ _ HS4 ?_
            clear hK KK
            try simp only [List.setIfInBounds_toArray]
            refine J.J_last (by rfl) (by kernel_rfl) (by kernel_rfl) ?_
            clear LAST HS1 HS4
            go_simp
            go_wp2_with fail
            go_roundg (m - (r + 1))
            case measure => have := Hd.out; omega
            case rel =>
              refine ⟨r + 1, upf s i (gset (s i) cd rr), by go_num, by omega, hid (by omega), H64, HN4, hid (fun z hz => ?_), hid (HF4.out.upd HBS.out (U2.out.drew))⟩
              by_cases e : z = i
              · subst e; rw [upf_at]; exact (HS.out _ hz).gset hct
              · rw [upf_ne _ _ _ _ e]; exact (HS.out z hz).mono (by omega)
          · go_upto_region 20 with (fail)
            obtain ⟨F, hg, hF, ST⟩ := (HN2.out.new ((Upd.refl [] w2).drew)).step hi7
            have HG := hid hg
            have HST := hid ST
            clear hg hF ST
            refine J.J_begin (fun wz => wz.cell? ⟨gv, i, none⟩ = some (.pointer (some ⟨g i, 0, none⟩))) 10 (by kernel_rfl) ⟨by kernel_rfl, by kernel_rfl, by kernel_rfl⟩ cgv (fun LAST HS1 => ?_)
            refine J.J_take (i := 0) (v := ?_) LAST (by rfl) (by decide) (by kernel_rfl) (by kernel_rfl) (by intro _ _ _ h; exact h) HS1 (Or.inl ⟨by rfl, ?_⟩) ?_
            rotate_left
            · intro w hSw; (try dsimp only at hSw); go_simp; try with_reducible rfl
            try simp only [Act.put, List.setIfInBounds_toArray, List.set_cons_zero, List.set_cons_succ]
            refine J.J_take (i := 1) (v := ?_) LAST (by rfl) (by decide) (by kernel_rfl) (by kernel_rfl) (by intro _ _ _ h; exact h) HS1 (Or.inl ⟨by rfl, ?_⟩) ?_
            rotate_left
            · intro w hSw; (try dsimp only at hSw); go_simp; try with_reducible rfl
            try simp only [Act.put, List.setIfInBounds_toArray, List.set_cons_zero, List.set_cons_succ]
            refine J.J_take (i := 2) (v := ?_) LAST (by rfl) (by decide) (by kernel_rfl) (by kernel_rfl) (by intro _ _ _ h; exact h) HS1 (Or.inl ⟨by rfl, ?_⟩) ?_
            rotate_left
            · intro w hSw; (try dsimp only at hSw); go_simp; try with_reducible rfl
            try simp only [Act.put, List.setIfInBounds_toArray, List.set_cons_zero, List.set_cons_succ]
            refine J.J_take (i := 3) (v := ?_) LAST (by rfl) (by decide) (by kernel_rfl) (by kernel_rfl) (by intro _ _ _ h; exact h) HS1 (Or.inl ⟨by rfl, ?_⟩) ?_
            rotate_left
            · intro w hSw; (try dsimp only at hSw); go_simp; try with_reducible rfl
            try simp only [Act.put, List.setIfInBounds_toArray, List.set_cons_zero, List.set_cons_succ]
            refine J.J_take (i := 4) (v := ?_) LAST (by rfl) (by decide) (by kernel_rfl) (by kernel_rfl) (by intro _ _ _ h; exact h) HS1 (Or.inl ⟨by rfl, ?_⟩) ?_
            rotate_left
            · intro w hSw; (try dsimp only at hSw); go_simp; try with_reducible rfl
            try simp only [Act.put, List.setIfInBounds_toArray, List.set_cons_zero, List.set_cons_succ]
            refine J.J_take (i := 5) (v := ?_) LAST (by rfl) (by decide) (by kernel_rfl) (by kernel_rfl) (by intro _ _ _ h; exact h) HS1 (Or.inl ⟨by rfl, ?_⟩) ?_
            rotate_left
            · intro w hSw; (try dsimp only at hSw); go_simp; try with_reducible rfl
            try simp only [Act.put, List.setIfInBounds_toArray, List.set_cons_zero, List.set_cons_succ]
            refine J.J_take (i := 6) (v := ?_) LAST (by rfl) (by decide) (by kernel_rfl) (by kernel_rfl) (by intro _ _ _ h; exact h) HS1 (Or.inl ⟨by rfl, ?_⟩) ?_
            rotate_left
            · intro w hSw; (try dsimp only at hSw); go_simp; try with_reducible rfl
            try simp only [Act.put, List.setIfInBounds_toArray, List.set_cons_zero, List.set_cons_succ]
            refine J.J_one (i := 7) (by rfl) (by decide) (by kernel_rfl) (fun KK hK => ?_)
            go_simp
            refine (rest_some _ _ _ (by omega) (by omega)).mono ?_
            rintro e w' ⟨rf, hrf, -, rfl, rfl⟩
            go_simp
            refine hK.out _ _ HS1 ?_
            clear hK KK
            try simp only [List.setIfInBounds_toArray]
            obtain ⟨rr, hrr⟩ : ∃ rr : Nat, rr = 1 + rf := ⟨_, rfl⟩
            have hw : IntKind.i64.wrap (1 + (rf : Int)) = (rr : Int) := by rw [IntWalk.i64_in _ (by omega)]; omega
            have hr1 : 1 ≤ rr := by omega
            clear hrr
            refine J.J_take (i := 8) (v := ?_) LAST (by rfl) (by decide) (by kernel_rfl) (by kernel_rfl) (by intro _ _ _ h; exact h) HS1 (Or.inl ⟨by rfl, ?_⟩) ?_
            rotate_left
            · intro w hSw; (try dsimp only at hSw); go_simp; try with_reducible rfl
            try simp only [Act.put, List.setIfInBounds_toArray, List.set_cons_zero, List.set_cons_succ]
            refine J.J_one (i := 9) (by rfl) (by decide) (by kernel_rfl) (fun KK hK => ?_)
            go_simp
            have SS := Set_any HG.out (HS.out i hi7).ok.wf cd rr (by omega) hr1 (by have := (HS.out i hi7).ok.le; omega)
            rw [← HCS.out] at SS
            have SS' := hid SS
            clear SS
            refine SS'.out.mono ?_
            rintro e w4 ⟨rfl, F', m1, m2, m3⟩
            obtain ⟨n1, n2⟩ := HST.out w4 F' _ m1 m2 m3 BW.out
            have HN4 := hid n1
            have HF4 := hid n2
            have H64 := hid (n2.own (own_new H62.out ((Upd.refl [] w2).drew)) (fun x hx => by simpa using hx))
            have HS4 : w4.cell? ⟨gv, i, none⟩ = some (.pointer (some ⟨g i, 0, none⟩)) := by
              obtain ⟨q', k', e', c'⟩ := ptr_at H64.out hi7
              cases e'
              exact c'
            clear m1 m2 m3 n1 n2 HST SS'
            go_simp
            refine hK.out _ _ HS4 ?_
            clear hK KK
            try simp only [List.setIfInBounds_toArray]
            refine J.J_last (by rfl) (by kernel_rfl) (by kernel_rfl) ?_
            clear LAST HS1 HS4
            go_simp
            go_wp2_with fail
            go_roundg (m - (r + 1))
            case measure => have := Hd.out; omega
            case rel =>
              refine ⟨r + 1, upf s i (gset (s i) cd rr), by go_num, by omega, hid (by omega), H64, HN4, hid (fun z hz => ?_), hid (HF4.out.upd HBS.out (U2.out.drew))⟩
              by_cases e : z = i
              · subst e; rw [upf_at]; exact (HS.out _ hz).gset hct
              · rw [upf_ne _ _ _ _ e]; exact (HS.out z hz).mono (by omega)
          · go_upto_region 23 with (fail)
            obtain ⟨F, hg, hF, ST⟩ := HN2.out.step hi7
            have HG := hid hg
            have HST := hid ST
            clear hg hF ST
            have SS := Drop_any HG.out (HS.out i hi7).ok.wf cd (by omega) (by have := (HS.out i hi7).ok.le; omega)
            rw [← HCS.out] at SS
            have SS' := hid SS
            clear SS
            go_wp2_with fail
            refine SS'.out.mono ?_
            rintro e w4 ⟨rfl, F', m1, m2, m3⟩
            generalize (if refOf (s i).rows cd = 0 then (4 : Int) else 0) = dv
            obtain ⟨n1, n2⟩ := HST.out w4 F' _ m1 m2 m3 BW.out
            have HN4 := hid n1
            have HF4 := hid n2
            have H64 := hid (n2.own H62.out (fun x hx => by simpa using hx))
            clear m1 m2 m3 n1 n2 HST SS'
            go_wp2_with fail
            go_roundg (m - (r + 1))
            case measure => have := Hd.out; omega
            case rel =>
              refine ⟨r + 1, upf s i (gdrop (s i) cd), by go_num, by omega, hid (by omega), H64, HN4, hid (fun z hz => ?_), hid (HF4.out.upd HBS.out U2.out)⟩
              by_cases e : z = i
              · subst e; rw [upf_at]; exact (HS.out _ hz).gdrop hct
              · rw [upf_ne _ _ _ _ e]; exact (HS.out z hz).mono (by omega)
          · have b0 : ((q : Int) == 0) = false := by rw [beq_eq_false_iff_ne]; omega
            have b1 : ((q : Int) == 1) = false := by rw [beq_eq_false_iff_ne]; omega
            have b2 : ((q : Int) == 2) = false := by rw [beq_eq_false_iff_ne]; omega
            have b3 : ((q : Int) == 3) = false := by rw [beq_eq_false_iff_ne]; omega
            go_upto_region 15 with (fail)
            refine J.J_begin (fun wz => ∀ z, z < j → wz.cell? ⟨gv, z, none⟩ = some (.pointer (some ⟨g z, 0, none⟩))) 13 (by kernel_rfl) ⟨by kernel_rfl, by kernel_rfl, by kernel_rfl⟩ (fun z hz => by
              obtain ⟨q', k', e', c'⟩ := ptr_at H62.out hz
              cases e'
              exact c') (fun LAST HS1 => ?_)
            have hci := fun (w : World) (h : ∀ z, z < j → w.cell? ⟨gv, z, none⟩ = some (.pointer (some ⟨g z, 0, none⟩))) => h i hi7
            refine J.J_take (i := 0) (v := ?_) LAST (by rfl) (by decide) (by kernel_rfl) (by kernel_rfl) (by intro _ _ _ h; exact h) HS1 (Or.inl ⟨by rfl, ?_⟩) ?_
            rotate_left
            · intro w hSw; (try dsimp only at hSw); have hSi := hci w hSw; go_simp; try with_reducible rfl
            try simp only [Act.put, List.setIfInBounds_toArray, List.set_cons_zero, List.set_cons_succ]
            refine J.J_take (i := 1) (v := ?_) LAST (by rfl) (by decide) (by kernel_rfl) (by kernel_rfl) (by intro _ _ _ h; exact h) HS1 (Or.inl ⟨by rfl, ?_⟩) ?_
            rotate_left
            · intro w hSw; (try dsimp only at hSw); have hSi := hci w hSw; go_simp; try with_reducible rfl
            try simp only [Act.put, List.setIfInBounds_toArray, List.set_cons_zero, List.set_cons_succ]
            refine J.J_take (i := 2) (v := ?_) LAST (by rfl) (by decide) (by kernel_rfl) (by kernel_rfl) (by intro _ _ _ h; exact h) HS1 (Or.inl ⟨by rfl, ?_⟩) ?_
            rotate_left
            · intro w hSw; (try dsimp only at hSw); have hSi := hci w hSw; go_simp; try with_reducible rfl
            try simp only [Act.put, List.setIfInBounds_toArray, List.set_cons_zero, List.set_cons_succ]
            refine J.J_take (i := 3) (v := ?_) LAST (by rfl) (by decide) (by kernel_rfl) (by kernel_rfl) (by intro _ _ _ h; exact h) HS1 (Or.inl ⟨by rfl, ?_⟩) ?_
            rotate_left
            · intro w hSw; (try dsimp only at hSw); have hSi := hci w hSw; go_simp; try with_reducible rfl
            try simp only [Act.put, List.setIfInBounds_toArray, List.set_cons_zero, List.set_cons_succ]
            refine J.J_take (i := 4) (v := ?_) LAST (by rfl) (by decide) (by kernel_rfl) (by kernel_rfl) (by intro _ _ _ h; exact h) HS1 (Or.inl ⟨by rfl, ?_⟩) ?_
            rotate_left
            · intro w hSw; (try dsimp only at hSw); have hSi := hci w hSw; go_simp; try with_reducible rfl
            try simp only [Act.put, List.setIfInBounds_toArray, List.set_cons_zero, List.set_cons_succ]
            refine J.J_take (i := 5) (v := ?_) LAST (by rfl) (by decide) (by kernel_rfl) (by kernel_rfl) (by intro _ _ _ h; exact h) HS1 (Or.inl ⟨by rfl, ?_⟩) ?_
            rotate_left
            · intro w hSw; (try dsimp only at hSw); have hSi := hci w hSw; go_simp; try with_reducible rfl
            try simp only [Act.put, List.setIfInBounds_toArray, List.set_cons_zero, List.set_cons_succ]
            refine J.J_take (i := 6) (v := ?_) LAST (by rfl) (by decide) (by kernel_rfl) (by kernel_rfl) (by intro _ _ _ h; exact h) HS1 (Or.inl ⟨by rfl, ?_⟩) ?_
            rotate_left
            · intro w hSw; (try dsimp only at hSw); have hSi := hci w hSw; go_simp; try with_reducible rfl
            try simp only [Act.put, List.setIfInBounds_toArray, List.set_cons_zero, List.set_cons_succ]
            refine J.J_take (i := 7) (v := ?_) LAST (by rfl) (by decide) (by kernel_rfl) (by kernel_rfl) (by intro _ _ _ h; exact h) HS1 (Or.inl ⟨by rfl, ?_⟩) ?_
            rotate_left
            · intro w hSw; (try dsimp only at hSw); have hSi := hci w hSw; go_simp; try with_reducible rfl
            try simp only [Act.put, List.setIfInBounds_toArray, List.set_cons_zero, List.set_cons_succ]
            refine J.J_one (i := 8) (by rfl) (by decide) (by kernel_rfl) (fun KK hK => ?_)
            go_simp
            refine (rest_some _ _ _ (by omega) (by omega)).mono ?_
            rintro e w' ⟨y, hy, -, rfl, rfl⟩
            have hyj : y < j := by omega
            have hyj' : (y : Int) < (j : Int) := by omega
            go_simp
            refine hK.out _ _ HS1 ?_
            clear hK KK hci
            try simp only [List.setIfInBounds_toArray]
            have hci := fun (w : World) (h : ∀ z, z < j → w.cell? ⟨gv, z, none⟩ = some (.pointer (some ⟨g z, 0, none⟩))) => h y hyj
            refine J.J_take (i := 9) (v := ?_) LAST (by rfl) (by decide) (by kernel_rfl) (by kernel_rfl) (by intro _ _ _ h; exact h) HS1 (Or.inl ⟨by rfl, ?_⟩) ?_
            rotate_left
            · intro w hSw; (try dsimp only at hSw); have hSi := hci w hSw; go_simp; try with_reducible rfl
            try simp only [Act.put, List.setIfInBounds_toArray, List.set_cons_zero, List.set_cons_succ]
            refine J.J_take (i := 10) (v := ?_) LAST (by rfl) (by decide) (by kernel_rfl) (by kernel_rfl) (by intro _ _ _ h; exact h) HS1 (Or.inl ⟨by rfl, ?_⟩) ?_
            rotate_left
            · intro w hSw; (try dsimp only at hSw); have hSi := hci w hSw; go_simp; try with_reducible rfl
            try simp only [Act.put, List.setIfInBounds_toArray, List.set_cons_zero, List.set_cons_succ]
            refine J.J_one (i := 11) (by rfl) (by decide) (by kernel_rfl) (fun KK hK => ?_)
            go_simp
            obtain ⟨Fy, hgy, -, -⟩ := (HN2.out.new ((Upd.refl [] w2).drew)).step hyj
            have SA := hid (state_any hgy (by have := (HS.out y hyj).ok.wf.few; omega))
            clear hgy
            refine SA.out.mono ?_
            rintro e w3 ⟨v3, rfl, ho3, hu3⟩
            have U3 := hid ((U2.out.drew).trans hu3 (fun t ht => by cases ht))
            have H63 := hid (own_new (own_new H62.out ((Upd.refl [] w2).drew)) hu3)
            have HN3 := hid ((HN2.out.new ((Upd.refl [] w2).drew)).new hu3)
            obtain ⟨a3, k3, e3, -⟩ := own_view ho3
            subst e3
            have R3 := hid (rowAt_own ho3)
            have BW3 := hid (show B ≤ w3.heap.size by have h1 := U3.out.size; have := HBS.out; omega)
            have HS3 : ∀ z, z < j → w3.cell? ⟨gv, z, none⟩ = some (.pointer (some ⟨g z, 0, none⟩)) := fun z hz => by
              obtain ⟨q', k', e', c'⟩ := ptr_at H63.out hz
              cases e'
              exact c'
            clear ho3 hu3 SA
            go_simp
            refine hK.out _ _ HS3 ?_
            clear hK KK hci
            try simp only [List.setIfInBounds_toArray]
            obtain ⟨F, hg, hF, ST⟩ := HN3.out.step hi7
            have HG := hid hg
            have HST := hid ST
            clear hg hF ST
            refine J.J_one (i := 12) (by rfl) (by decide) (by kernel_rfl) (fun KK hK => ?_)
            go_simp
            have SS := hid (merge_any HG.out (HS.out i hi7).ok (by omega) a3 (s y).rows.length k3 (s y).rows rfl (HS.out y hyj).ok.wf ((HS.out y hyj).ok.rb.mono (HS.out y hyj).ok.le) R3.out)
            refine SS.out.mono ?_
            rintro e w4 ⟨rfl, F', m1, m2, m3⟩
            obtain ⟨n1, n2⟩ := HST.out w4 F' _ m1 m2 m3 BW3.out
            have HN4 := hid n1
            have HF4 := hid n2
            have H64 := hid (n2.own H63.out (fun x hx => by simpa using hx))
            have HS4 : ∀ z, z < j → w4.cell? ⟨gv, z, none⟩ = some (.pointer (some ⟨g z, 0, none⟩)) := fun z hz => by
              obtain ⟨q', k', e', c'⟩ := ptr_at H64.out hz
              cases e'
              exact c'
            clear m1 m2 m3 n1 n2 HST SS
            go_simp
            refine hK.out _ _ HS4 ?_
            clear hK KK
            try simp only [List.setIfInBounds_toArray]
            refine J.J_last (by rfl) (by kernel_rfl) (by kernel_rfl) ?_
            clear LAST HS1 HS3 HS4
            go_simp
            go_wp2_with fail
            go_roundg (m - (r + 1))
            case measure => have := Hd.out; omega
            case rel =>
              refine ⟨r + 1, upf s i (gmerge (s i) (s y).rows), by go_num, by omega, hid (by omega), H64, HN4, hid (fun z hz => ?_), hid (HF4.out.upd HBS.out U3.out)⟩
              by_cases e : z = i
              · subst e; rw [upf_at]; exact ((HS.out _ hz).gmerge (HS.out y hyj)).mono (by omega)
              · rw [upf_ne _ _ _ _ e]; exact (HS.out z hz).mono (by omega)
        · have hr' : ¬ (r : Int) < (m : Int) := by omega
          go_wp2_with fail
          go_ret2
          have e : r = m := by omega
          exact ⟨_, rfl, ⟨g, s, H6.out, HN.out, fun i hi => (HS.out i hi).mono (by omega)⟩, HU.out⟩
end Go.Proofs.YtbkhjmdklghbiaaDoor.Nm
