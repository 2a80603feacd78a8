/- The walk of trace.Unpack: bytes as a history. -/
import Derived.Test.YtcdladnbcamgjaaTa
namespace Go.Proofs.Ytcdladnbcamgjaa.Up
open Go Go.RowKit Go.Proofs.Ytcdladnbcamgjaa.K Go.Proofs.Ytcdladnbcamgjaa.M Go.Proofs.Ytcdladnbcamgjaa.Ev Go.Proofs.Ytcdladnbcamgjaa.Ck Go.Proofs.Ytcdladnbcamgjaa.O Go.Proofs.Ytcdladnbcamgjaa.Hi Go.Proofs.Ytcdladnbcamgjaa.Th Go.Proofs.Ytcdladnbcamgjaa.By Go.Proofs.Ytcdladnbcamgjaa.Tk Go.Proofs.Ytcdladnbcamgjaa.Ta

theorem EvRow.nil (w : World) : EvRow w none [] := fun i hi => absurd hi (Nat.not_lt_zero i)
theorem Unp.large {b : List Nat} (h : 4000 < b.length) : Unp b 2 [] := .inl ⟨rfl, by decide, .inl h⟩
theorem Unp.form0 {b : List Nat} (h : tk b = none) : Unp b 3 [] := .inl ⟨rfl, by decide, .inr (.inl ⟨h, rfl⟩)⟩
theorem Unp.many {b : List Nat} {n : Nat} {r : List Nat} (h : tk b = some (n, r)) (hn : 200 < n) : Unp b 2 [] := .inl ⟨rfl, by decide, .inr (.inr ⟨n, r, h, .inl hn⟩)⟩
theorem Unp.form1 {b : List Nat} {n : Nat} {r : List Nat} (h : tk b = some (n, r)) (h2 : unp n [] r = none) : Unp b 3 [] := .inl ⟨rfl, by decide, .inr (.inr ⟨n, r, h, .inr (.inl ⟨h2, rfl⟩)⟩)⟩
theorem Unp.form2 {b : List Nat} {n : Nat} {r s : List Nat} {l : List Ev} (h : tk b = some (n, r)) (h2 : unp n [] r = some (l, s)) (hs : s ≠ []) : Unp b 3 [] := .inl ⟨rfl, by decide, .inr (.inr ⟨n, r, h, .inr (.inr ⟨l, s, h2, .inl hs⟩)⟩)⟩
theorem Unp.no {b : List Nat} {n : Nat} {r : List Nat} {l : List Ev} {c : Int} (h : tk b = some (n, r)) (h2 : unp n [] r = some (l, [])) (hv : ¬ Valid l) (hc : c ≠ 0) : Unp b c [] := .inl ⟨rfl, hc, .inr (.inr ⟨n, r, h, .inr (.inr ⟨l, [], h2, .inr hv⟩)⟩)⟩
theorem Unp.yes {b : List Nat} {n : Nat} {r : List Nat} {l : List Ev} (h : tk b = some (n, r)) (h2 : unp n [] r = some (l, [])) (hv : Valid l) (hl : l.length ≤ 200) : Unp b 0 l := .inr ⟨rfl, hv, hl, n, r, h, h2⟩
theorem Took.no {xs r : List Nat} {x : Nat} (h : Took xs x r false) : tk xs = none := by
  rcases h with ⟨_, h, _⟩ | ⟨h, _⟩
  · exact h
  · cases h

theorem ret2c {k k' : Nat} {a : Option Addr} {c : Nat} {x : Int} (hk : k = k') : Ending.returned (.tuple #[.slice a k c, .int .i64 x]) = Ending.returned (.tuple #[.slice a k' c, .int .i64 x]) := by rw [hk]
set_option maxHeartbeats 8000000 in
set_option maxRecDepth 100000 in
theorem unpack_any (a : Option Addr) (n cap : Nat) (xs : List Nat) (w : World) (hx : ByRow w a xs) (hl : xs.length = n) (hlc : n ≤ cap) (hc : cap ≤ 9223372036854775807) (h256 : ∀ x ∈ xs, x < 256) :
    Calls Try.prog 47 #[.slice a n cap] w fun e w' => ∃ (l : List Ev) (b : Option Addr) (c' : Nat) (er : Int), e = .returned (.tuple #[.slice b l.length c', .int .i64 er]) ∧ Hid (EvRow w' b l) ∧ l.length ≤ c' ∧ c' ≤ 9223372036854775807 ∧ Upd [] w w' ∧ Hid (Unp xs er l) := by
  obtain ⟨i31, hi31, hz31a, hz31b, hz31c⟩ := info_parts info31
  have HI31 := hid hi31
  have HA31 := hid hz31a
  have HB31 := hid hz31b
  have HC31 := hid hz31c
  clear hi31 hz31a hz31b hz31c
  have HL := hid hl
  have H2 := hid h256
  have tk0 := fun (h : n ≤ 10000) => take_any a n cap xs w w (Upd.refl _ _) hx hl hlc hc h256 h
  have TK0 := hid tk0
  clear hx hl h256 tk0
  go_enter Try.func47, Try.ntmps47
  by_cases h4 : n ≤ 4000
  · have h4' : ¬ 4000 < (n : Int) := by omega
    go_wp2_with fail
    refine (TK0.out (by omega)).mono ?_
    rintro e w1 ⟨x, a1, c1, r, ok, rfl, R1, hr1, hc1, hx1, hu, TK⟩
    have U := hid hu
    have B0 : r.length ≤ 4000 := by
      rcases TK.out with ⟨_, _, rfl⟩ | ⟨_, h⟩
      · simp
      · have := (tk_len H2.out h).1; rw [HL.out] at this; omega
    clear hu TK0
    cases ok with
    | false =>
      go_wp2_with fail
      go_ret2
      exact ⟨[], none, 0, 3, rfl, hid (EvRow.nil _), Nat.le_refl _, by decide, U.out, hid (Unp.form0 (Took.no TK.out))⟩
    | true =>
      have TK' : Hid (tk xs = some (x, r)) := by
        rcases TK.out with ⟨h, _⟩ | ⟨_, h⟩
        · cases h
        · exact h
      have R256 := hid (tk_len H2.out TK'.out).2
      clear TK
      by_cases h2 : 200 < x
      · have h2' : 200 < (x : Int) := by omega
        go_wp2_with fail
        go_ret2
        exact ⟨[], none, 0, 2, rfl, hid (EvRow.nil _), Nat.le_refl _, by decide, U.out, hid (Unp.many TK'.out h2)⟩
      · have h2' : ¬ 200 < (x : Int) := by omega
        obtain ⟨B, hB⟩ : ∃ B, B = w1.heap.size := ⟨_, rfl⟩
        have HBS := hid hB
        clear hB
        go_wp2_with fail
        go_loopg [0, 6, 24] x (fun d v0 v6 v24 wr => ∃ (j : Nat) (acc : List Ev) (a' : Option Addr) (c' : Nat) (s : List Nat), v0 = .slice a' s.length c' ∧ v24 = .int .i64 (j : Int) ∧ j ≤ x ∧ Hid (j + d = x) ∧ Hid (acc.length = j) ∧ s.length ≤ 4000 ∧ s.length ≤ c' ∧ c' ≤ 9223372036854775807 ∧ Hid (wr.ownsRow B 31 3 v6 j (evCells acc)) ∧ Hid (ByRow w a' s) ∧ Hid (∀ x ∈ s, x < 256) ∧ Hid (unp x [] r = unp d acc s) ∧ Hid (Upd [] w1 wr))
        case atStart => exact ⟨0, [], a1, c1, r, rfl, rfl, by omega, by show _ = _; omega, rfl, B0, hr1, hc1, World.ownsRow_nil _ _ _ _, R1.out, R256.out, rfl, Upd.refl _ _⟩
        case round =>
          clear R1 B0 hr1 hc1
          obtain ⟨j, acc, a', c', s, rfl, rfl, hjx, Hj, HJ, hs4, hsc, hc2, HO, RS, S256, HU, V⟩ := hrel
          by_cases hj : j < x
          · have hj' : (j : Int) < (x : Int) := by omega
            obtain ⟨k, rfl⟩ : ∃ k, gk = k + 1 := ⟨gk - 1, by have := Hj.out; omega⟩
            go_wp2_with fail
            refine (take_any a' s.length c' s w wr (U.out.trans V.out (by simp)) RS.out rfl hsc hc2 S256.out (by omega)).mono ?_
            rintro e w2 ⟨y, a2, c2, s2, ok, rfl, R2, hr2, hc3, hy, hu, TK⟩
            have V2 := hid (V.out.trans hu (by simp))
            have HO2 := hid (own_new HO.out hu)
            have S4 : s2.length ≤ 4000 := by
              rcases TK.out with ⟨_, _, rfl⟩ | ⟨_, h⟩
              · simp
              · have := (tk_len S256.out h).1; omega
            clear hu HO V RS
            cases ok with
            | false =>
              go_wp2_with fail
              go_ret2
              exact ⟨[], none, 0, 3, rfl, hid (EvRow.nil _), Nat.le_refl _, by decide, U.out.trans V2.out (by simp), hid (Unp.form1 TK'.out (HU.out.trans (unp_none _ _ _ (Took.no TK.out))))⟩
            | true =>
              have TK2 : Hid (tk s = some (y, s2)) := by
                rcases TK.out with ⟨h, _⟩ | ⟨_, h⟩
                · cases h
                · exact h
              have S2 := hid (tk_len S256.out TK2.out).2
              clear TK S256
              have e1 : (y : Int) / 3 = ((y / 3 : Nat) : Int) := by omega
              have e2 : (y : Int) % 3 + 1 = ((y % 3 + 1 : Nat) : Int) := by omega
              have E1 := hid e1
              have E2 := hid e2
              clear e1 e2
              by_cases h3 : y % 3 = 0
              · have hq : ((y : Int) % 3 + 1 != 1) = false := by rw [bne_eq_false_iff_eq]; omega
                go_wp2_with (first | (at_builtin; refine wpList_app (W := w2.alloc (.cells #[.int .i64 ((y : Int) / 3), .int .i64 ((y : Int) % 3 + 1), .int .i64 0] 31)) rfl (.tmp 52) (.tmp 54) 24 rfl B 31 i31 _ 3 24 Try.underlying24 HI31.out HA31.out HB31.out HC31.out rfl (by decide) u6 j (evCells acc) rfl (HO2.out.alloc _) [.int .i64 ((y : Int) / 3), .int .i64 ((y : Int) % 3 + 1), .int .i64 0] 31 (by first | rfl | (rw [World.size_alloc]; rfl)) rfl (by intro u hu; simp at hu; rcases hu with rfl | rfl | rfl <;> rfl) (by omega) (by omega) (by have := V2.out.size; have := HBS.out; simp; omega) ?_; intro v6' w6 hw6 hu6 hl6; have HW6 := hid hw6; have HU6 := hid hu6; clear hw6 hu6 hl6))
                go_roundg k
                case measure => omega
                case rel =>
                  refine ⟨j + 1, acc ++ [⟨y / 3, 1, 0⟩], a2, c2, s2, rfl, by go_num, by omega, by show _ = _; have := Hj.out; omega, by show _ = _; rw [List.length_append, HJ.out]; rfl, S4, hr2, hc3, ?_, R2.out, S2.out, HU.out.trans (unp_loc _ _ _ TK2.out h3), ?_⟩
                  · have := HW6.out
                    rw [E1.out, E2.out, h3] at this
                    rw [evCells_snoc]; exact this
                  · exact (V2.out.alloc _).trans HU6.out (fun t ht => .inr (by rw [← HBS.out]; exact own_ge HO2.out t (by simpa using ht)))
              · have hq : ((y : Int) % 3 + 1 != 1) = true := by rw [bne_iff_ne]; omega
                have H3 := hid h3
                clear h3
                go_wp2_with fail
                have ub : Upd [] w2 (w2.alloc (.cells #[.int .i64 ((y : Int) / 3), .int .i64 ((y : Int) % 3 + 1), .int .i64 0] 31)) := (Upd.refl [] w2).alloc _
                refine (take_any a2 s2.length c2 s2 w _ (U.out.trans (V2.out.trans ub (by simp)) (by simp)) R2.out rfl hr2 hc3 S2.out (by omega)).mono ?_
                rintro e w3 ⟨m, a3, c3, s3, ok, rfl, R3, hr3, hc4, hm, hu, TK⟩
                have hbk : w3.heap[w2.heap.size]? = some (.cells #[.int .i64 ((y : Int) / 3), .int .i64 ((y : Int) % 3 + 1), .int .i64 0] 31 (0, 0)) := hu.blk (blk_new w2 _) (by simp)
                have d0 : w3.cell? ⟨w2.heap.size, 0, none⟩ = some (.int .i64 ((y : Int) / 3)) := (blk_cell hbk 0).trans rfl
                have d1 : w3.cell? ⟨w2.heap.size, 1, none⟩ = some (.int .i64 ((y : Int) % 3 + 1)) := (blk_cell hbk 1).trans rfl
                have d2 : w3.cell? ⟨w2.heap.size, 2, none⟩ = some (.int .i64 0) := (blk_cell hbk 2).trans rfl
                have V3 := hid (V2.out.trans (ub.trans hu (by simp)) (by simp))
                have HO3 := hid (own_new HO2.out (ub.trans hu (by simp)))
                have W2 := hid (V2.out.size)
                have S5 : s3.length ≤ 4000 := by
                  rcases TK.out with ⟨_, _, rfl⟩ | ⟨_, h⟩
                  · simp
                  · have := (tk_len S2.out h).1; omega
                have fr : w3.frozen? ⟨w2.heap.size, 2, none⟩ = false := blk_frozen hbk 2
                have us : Upd [w2.heap.size] w3 (w3.setCell ⟨w2.heap.size, 2, none⟩ (.int .i64 (m : Int))) := (Upd.refl _ w3).setCell (.inl (by simp)) _
                have V4 := hid (V3.out.trans us (fun t ht => .inr (by simp at ht; subst ht; exact W2.out)))
                have HO4 := hid (own_upd HO3.out us (fun k hk hm => by simp at hm; have := own_lt HO2.out k hk; omega))
                clear hu ub hbk us
                cases ok with
                | false =>
                  go_wp2_with fail
                  go_ret2
                  exact ⟨[], none, 0, 3, rfl, hid (EvRow.nil _), Nat.le_refl _, by decide, U.out.trans V4.out (by simp), hid (Unp.form1 TK'.out (HU.out.trans (unp_half _ _ _ TK2.out H3.out (Took.no TK.out))))⟩
                | true =>
                  have TK3 : Hid (tk s2 = some (m, s3)) := by
                    rcases TK.out with ⟨h, _⟩ | ⟨_, h⟩
                    · cases h
                    · exact h
                  have S3 := hid (tk_len S2.out TK3.out).2
                  clear TK
                  go_wp2_with (first | (at_builtin; refine wpList_app (W := w3.setCell ⟨w2.heap.size, 2, none⟩ (.int .i64 (m : Int))) rfl (.tmp 52) (.tmp 54) 24 rfl B 31 i31 _ 3 24 Try.underlying24 HI31.out HA31.out HB31.out HC31.out rfl (by decide) u6 j (evCells acc) rfl HO4.out [.int .i64 ((y : Int) / 3), .int .i64 ((y : Int) % 3 + 1), .int .i64 (m : Int)] 31 (by first | rfl | (rw [World.size_setCell]; rfl)) rfl (by intro u hu; simp at hu; rcases hu with rfl | rfl | rfl <;> rfl) (by omega) (by omega) (by have := V4.out.size; have := HBS.out; omega) ?_; intro v6' w6 hw6 hu6 hl6; have HW6 := hid hw6; have HU6 := hid hu6; clear hw6 hu6 hl6))
                  go_roundg k
                  case measure => omega
                  case rel =>
                    refine ⟨j + 1, acc ++ [⟨y / 3, y % 3 + 1, m⟩], a3, c3, s3, rfl, by go_num, by omega, by show _ = _; have := Hj.out; omega, by show _ = _; rw [List.length_append, HJ.out]; rfl, S5, hr3, hc4, ?_, R3.out, S3.out, HU.out.trans (unp_msg _ _ _ TK2.out H3.out TK3.out), ?_⟩
                    · have := HW6.out
                      rw [E1.out, E2.out] at this
                      rw [evCells_snoc]; exact this
                    · exact V4.out.trans HU6.out (fun t ht => .inr (by rw [← HBS.out]; exact own_ge HO4.out t (by simpa using ht)))
          · obtain rfl : j = x := by omega
            have hg : gk = 0 := by have := Hj.out; omega
            subst hg
            have HU' : Hid (unp j [] r = some (acc, s)) := HU.out
            clear HU
            by_cases hs : s = []
            · subst hs
              have ho := HO.out
              rw [← HJ.out] at ho
              obtain ⟨a6, c6, e6, h61, h62, r6⟩ := evRow_of ho
              rw [HJ.out] at e6 h61
              subst e6
              have R6 := hid r6
              have chk := check_any a6 c6 acc wr r6 (by rw [HJ.out]; exact h61) h62 (by rw [HJ.out]; omega)
              rw [HJ.out] at chk
              clear ho r6
              go_wp2_with fail
              refine chk.mono ?_
              rintro e w2 ⟨c, rfl, hv, hu⟩
              replace U := hid (U.out.trans (V.out.trans hu (by simp)) (by simp))
              replace R6 := hid (R6.out.upd hu)
              clear hu chk
              by_cases hc0 : c = 0
              · have HV := hid (hv.1 hc0)
                subst hc0
                clear hv
                go_wp2_with fail
                go_ret2
                exact ⟨acc, a6, c6, 0, ret2c HJ.out.symm, R6, by rw [HJ.out]; exact h61, h62, U.out, hid (Unp.yes TK'.out HU'.out HV.out (by rw [HJ.out]; omega))⟩
              · have HV := hid (fun h => hc0 (hv.2 h))
                have b : ((c : Int) != 0) = true := by rw [bne_iff_ne]; omega
                have HC := hid hc0
                clear hv hc0
                go_wp2_with fail
                go_ret2
                exact ⟨[], none, 0, c, rfl, hid (EvRow.nil _), Nat.le_refl _, by decide, U.out, hid (Unp.no TK'.out HU'.out HV.out (by have := HC.out; omega))⟩
            · have hs1 : 0 < (s.length : Int) := by have := List.length_pos_iff.2 hs; omega
              have HS := hid hs
              clear hs
              go_wp2_with fail
              go_ret2
              exact ⟨[], none, 0, 3, rfl, hid (EvRow.nil _), Nat.le_refl _, by decide, U.out.trans V.out (by simp), hid (Unp.form2 TK'.out HU'.out HS.out)⟩
  · have h4' : 4000 < (n : Int) := by omega
    go_wp2_with fail
    go_ret2
    exact ⟨[], none, 0, 2, rfl, hid (EvRow.nil _), Nat.le_refl _, by decide, Upd.refl _ _, hid (Unp.large (by rw [HL.out]; omega))⟩
end Go.Proofs.Ytcdladnbcamgjaa.Up
