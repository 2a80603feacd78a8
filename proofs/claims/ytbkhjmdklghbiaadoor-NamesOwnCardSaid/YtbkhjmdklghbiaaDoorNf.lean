/- Names: Set, Drop. -/
import Derived.Test.YtbkhjmdklghbiaaDoorNe
namespace Go.Proofs.YtbkhjmdklghbiaaDoor.Nm
open Go Go.RowKit Go.Proofs.YtbkhjmdklghbiaaDoor Go.Proofs.YtbkhjmdklghbiaaDoor.K Go.Proofs.YtbkhjmdklghbiaaDoor.M Go.Proofs.YtbkhjmdklghbiaaDoor.O

theorem put_any {w : World} {F : List Nat} {g : Nat} {s : G} (h : IsG w F g s) (hw : WF s.rows) (t r : Nat) (ht : t < 7) (hc : s.count < 1099511627776) :
    Calls Tryd.prog 30 #[.pointer (some ⟨g, 0, none⟩), .string (nmS t), .int .i64 (r : Int)] w fun e w' => e = .returned (.int .i64 0) ∧ ∃ F', IsG w' F' g (gset s t r) ∧ Fresh w F F' ∧ Upd F w w' := by
  cases hr : hasRow s.rows t with
  | false =>
    have e : gset s t r = ⟨s.me, s.count + 1, insAt s.rows (posOf s.rows t) ⟨t, r, s.count + 1, s.me⟩⟩ := by
      unfold gset rput; simp only; rw [if_neg (by rw [hr]; decide)]
    rw [e]; exact put_new h hw t r ht hc hr
  | true =>
    have e : gset s t r = ⟨s.me, s.count + 1, s.rows.set (posOf s.rows t) ⟨t, r, s.count + 1, s.me⟩⟩ := by
      unfold gset rput; simp only; rw [if_pos hr]
    rw [e]; exact put_old h hw t r ht hc hr
set_option maxHeartbeats 4000000 in
set_option maxRecDepth 100000 in
theorem Set_any {w : World} {F : List Nat} {g : Nat} {s : G} (h : IsG w F g s) (hw : WF s.rows) (t r : Nat) (ht : t < 7) (h1 : 1 ≤ r) (hc : s.count < 1099511627776) :
    Calls Tryd.prog 13 #[.pointer (some ⟨g, 0, none⟩), .string (nmS t), .int .i64 (r : Int)] w fun e w' => e = .returned (.int .i64 0) ∧ ∃ F', IsG w' F' g (gset s t r) ∧ Fresh w F F' ∧ Upd F w w' := by
  have WD := hid (word_nm t ht w)
  have PT := fun w' (u : Upd [] w w') => hid (put_any (h.new u) hw t r ht hc)
  obtain ⟨st, hst⟩ : ∃ st, st = nmS t := ⟨_, rfl⟩
  rw [← hst] at WD PT ⊢
  have hr1 : ¬ (r : Int) < 1 := by omega
  clear h hw hst ht h1 hc
  go_enter Tryd.func13, Tryd.ntmps13
  go_wp2_with fail
  refine WD.out.mono ?_
  rintro e w1 ⟨rfl, hu⟩
  have PT1 := PT w1 hu
  have U1 := hid hu
  clear hu WD PT
  go_wp2_with fail
  refine PT1.out.mono ?_
  rintro e w2 ⟨rfl, F', m1, m2, m3⟩
  have M1 := hid m1
  have M2 := hid m2
  have M3 := hid m3
  clear m1 m2 m3 PT1
  go_wp2_with fail
  go_ret
  exact ⟨rfl, F', M1.out, fun x hx => by
    rcases M2.out x hx with q | q
    · exact .inl q
    · exact .inr (Nat.le_trans U1.out.size q), (U1.out.mono (T := F) (fun x hx => by cases hx)).trans M3.out (fun x hx => .inl hx)⟩
def gdrop (s : G) (t : Nat) : G := if refOf s.rows t = 0 then s else gset s t 0
set_option maxHeartbeats 4000000 in
set_option maxRecDepth 100000 in
theorem Drop_any {w : World} {F : List Nat} {g : Nat} {s : G} (h : IsG w F g s) (hw : WF s.rows) (t : Nat) (ht : t < 7) (hc : s.count < 1099511627776) :
    Calls Tryd.prog 14 #[.pointer (some ⟨g, 0, none⟩), .string (nmS t)] w fun e w' => e = .returned (.int .i64 (if refOf s.rows t = 0 then 4 else 0)) ∧ ∃ F', IsG w' F' g (gdrop s t) ∧ Fresh w F F' ∧ Upd F w w' := by
  have FD := hid (Find_any h hw t ht)
  have PT := fun w' (u : Upd [] w w') => hid (put_any (h.new u) hw t 0 ht hc)
  have H := hid h
  obtain ⟨st, hst⟩ : ∃ st, st = nmS t := ⟨_, rfl⟩
  obtain ⟨rv, hrv⟩ : ∃ rv, rv = refOf s.rows t := ⟨_, rfl⟩
  unfold gdrop
  rw [← hst] at FD PT ⊢
  rw [← hrv] at FD ⊢
  clear h hw hst ht hc hrv
  by_cases h0 : rv = 0
  · subst h0
    rw [if_pos rfl] at FD ⊢
    rw [if_pos rfl]
    go_enter Tryd.func14, Tryd.ntmps14
    go_wp2_with fail
    refine FD.out.mono ?_
    rintro e w1 ⟨rfl, hu⟩
    have U1 := hid hu
    clear hu FD PT
    go_wp2_with fail
    go_ret
    exact ⟨rfl, F, H.out.new U1.out, fun x hx => .inl hx, U1.out.mono (fun x hx => by cases hx)⟩
  · rw [if_neg h0] at FD ⊢
    rw [if_neg h0]
    clear h0
    go_enter Tryd.func14, Tryd.ntmps14
    go_wp2_with fail
    refine FD.out.mono ?_
    rintro e w1 ⟨rfl, hu⟩
    have U1 := hid hu
    have PT1 := PT w1 hu
    clear hu FD PT
    go_wp2_with fail
    refine PT1.out.mono ?_
    rintro e w2 ⟨rfl, F', m1, m2, m3⟩
    have M1 := hid m1
    have M2 := hid m2
    have M3 := hid m3
    clear m1 m2 m3 PT1
    go_wp2_with fail
    go_ret
    exact ⟨rfl, F', M1.out, fun x hx => by
      rcases M2.out x hx with q | q
      · exact .inl q
      · exact .inr (Nat.le_trans U1.out.size q), (U1.out.mono (T := F) (fun x hx => by cases hx)).trans M3.out (fun x hx => .inl hx)⟩
end Go.Proofs.YtbkhjmdklghbiaaDoor.Nm
