/- Gossip: what the functions do at one of several nodes; gossipBegun. -/
import Derived.Test.YtgkjkgooonicbaaGr
import Derived.Test.YtgkjkgooonicbaaGe
import Derived.Test.YtgkjkgooonicbaaGf
namespace Go.Proofs.Ytgkjkgooonicbaa.Gs
open Go Go.RowKit Go.Proofs.Ytgkjkgooonicbaa Go.Proofs.Ytgkjkgooonicbaa.K Go.Proofs.Ytgkjkgooonicbaa.M Go.Proofs.Ytgkjkgooonicbaa.O

/-- Rows of the nodes 1 to n. -/
def Full (n : Nat) (l : List Row) : Prop := l.length = n ∧ ∀ k, k < n → (l.getD k noRow).node = k + 1
theorem rall_full (n : Nat) : Full n (rall n) := ⟨rall_len n, fun k hk => by rw [rall_get n k hk]⟩
theorem Full.pos {n : Nat} {l : List Row} (h : Full n l) {k : Nat} (hk : k < n) : posOf l (k + 1) = k :=
  posOf_eq l (k + 1) k (by rw [h.1]; omega) (fun j hj => by rw [h.2 j (by omega)]; omega) (fun _ => by rw [h.2 k hk]; omega)
theorem Full.has {n : Nat} {l : List Row} (h : Full n l) {k : Nat} (hk : k < n) : hasRow l (k + 1) = true :=
  hasRow_iff.2 ⟨by rw [h.pos hk, h.1]; exact hk, by rw [h.pos hk]; exact h.2 k hk⟩
theorem Full.set {n : Nat} {l : List Row} (h : Full n l) {k : Nat} (hk : k < n) {r : Row} (hr : r.node = k + 1) : Full n (l.set k r) :=
  ⟨by rw [List.length_set]; exact h.1, fun j hj => by
    rw [getD_set l k r j (by rw [h.1]; exact hk)]
    by_cases e : j = k
    · rw [if_pos e, hr, e]
    · rw [if_neg e]; exact h.2 j hj⟩
theorem Full.say {n : Nat} {l : List Row} (h : Full n l) {k : Nat} (hk : k < n) (sa : Nat) : Full n (sayAt l k sa) := h.set hk (h.2 k hk)
theorem Full.rput {n : Nat} {l : List Row} (h : Full n l) {k : Nat} (hk : k < n) {r : Row} (hr : r.node = k + 1) (me : Nat) :
    rput me l r = if newer (l.getD k noRow) r = true then (if r.node = me then l.set k (if r.says = 1 then r else ⟨me, min (r.turn + 1) 1099511627776, 1⟩) else l.set k r) else l := by
  unfold Gs.rput
  rw [hr, if_pos (h.has hk), h.pos hk]
section
variable {B n : Nat} {Z : List Nat} {w : World} {g : Nat → Nat} {s : Nat → G}
theorem net_says (h : Net B Z n w g s) {i : Nat} (hi : i < n) (hs : WF (s i).rows) (hf : Full n (s i).rows) {k t : Nat} (hk : k < n) (ht : t = k + 1) :
    Calls Try.prog 33 #[.pointer (some ⟨g i, 0, none⟩), .int .i64 (t : Int)] w fun e w' => e = .returned (.tuple #[.int .i64 (((s i).rows.getD k noRow).says : Int), .int .i64 0]) ∧ Upd [] w w' := by
  obtain ⟨F, hg, -, -⟩ := h.step hi
  have := says_yes hg hs.1 (by have := hs.len; omega) t (by rw [ht]; exact hf.has hk)
  rw [ht, hf.pos hk] at this
  rw [ht]
  exact this
theorem net_tick (h : Net B Z n w g s) {i : Nat} (hi : i < n) (hB : B ≤ w.heap.size) (h8 : (s i).rows.length ≤ 100) (hsn : ∀ x, (s i).since x ≤ 100000) :
    Calls Try.prog 31 #[.pointer (some ⟨g i, 0, none⟩)] w fun e w' => e = .returned (.tuple #[]) ∧ Net B Z n w' g (upf s i (tickN (s i) (s i).rows.length)) ∧ Far B Z w w' := by
  obtain ⟨F, hg, -, ST⟩ := h.step hi
  refine (tick_any hg h8 hsn).mono ?_
  rintro e w' ⟨rfl, h1, h2⟩
  exact ⟨rfl, ST w' F _ h1 (fun x hx => .inl hx) h2 hB⟩
theorem net_doubt (h : Net B Z n w g s) {i : Nat} (hi : i < n) (hB : B ≤ w.heap.size) (hs : WF (s i).rows) (hf : Full n (s i).rows) {k t : Nat} (hk : k < n) (ht : t = k + 1) (hme : t ≠ (s i).me) (hsay : ((s i).rows.getD k noRow).says = 1) :
    Calls Try.prog 32 #[.pointer (some ⟨g i, 0, none⟩), .int .i64 (t : Int)] w fun e w' => e = .returned (.int .i64 0) ∧ Net B Z n w' g (upf s i { s i with rows := sayAt (s i).rows k 2, since := at1 (s i).since t 0 }) ∧ Far B Z w w' := by
  obtain ⟨F, hg, -, ST⟩ := h.step hi
  subst ht
  have := doubt_yes hg hs.1 (by have := hs.len; omega) (k + 1) (hf.has hk) hme (by rw [hf.pos hk]; exact hsay)
  rw [hf.pos hk] at this
  refine this.mono ?_
  rintro e w' ⟨rfl, h1, h2⟩
  exact ⟨rfl, ST w' F _ h1 (fun x hx => .inl hx) h2 hB⟩
end
set_option maxHeartbeats 4000000 in
set_option maxRecDepth 100000 in
/-- gossipBegun answers true. -/
theorem begun_true (w : World) : Calls Try.prog 29 #[] w fun e w' => e = .returned (.bool true) ∧ Upd [] w w' := by
  have GA := hid (gossips_any 2 2 w (by decide) (by decide) (by decide) (by decide))
  go_enter Try.func29, Try.ntmps29
  go_wp2_with fail
  refine GA.out.mono ?_
  rintro e w1 ⟨v, g, s, rfl, ho, hn, hb, hu⟩
  obtain ⟨q, k, e, c⟩ := ptr_at ho (i := 0) (by decide)
  subst e
  have HO := hid ho
  have HN := hid hn
  have HB := hid hb
  have HU := hid hu
  clear ho hn hb hu GA
  have hr := (HB.out 0 (by decide)).2.2.1
  have SA := hid (net_says HN.out (i := 0) (by decide) (by rw [hr]; exact rall_wf 2 (by decide) (by decide)) (by rw [hr]; exact rall_full 2) (k := 1) (t := 2) (by decide) rfl)
  rw [hr] at SA
  have HR := hid hr
  clear hr
  go_wp2_with fail
  refine SA.out.mono ?_
  rintro e w2 ⟨rfl, hu2⟩
  have c2 := hu2.cell c (by simp)
  have HU2 := hid hu2
  clear hu2 c SA
  have DA := hid (net_doubt (HN.out.new HU2.out) (i := 0) (by decide) (by have := HU.out.size; have := HU2.out.size; omega) (by rw [HR.out]; exact rall_wf 2 (by decide) (by decide)) (by rw [HR.out]; exact rall_full 2) (k := 1) (t := 2) (by decide) rfl (by rw [(HB.out 0 (by decide)).1]; decide) (by rw [HR.out]; rfl))
  go_wp2_with fail
  refine DA.out.mono ?_
  rintro e w3 ⟨rfl, -, hf⟩
  have HF := hid (hf.upd rfl ((HU.out.trans HU2.out (fun x hx => by cases hx))))
  clear hf DA
  go_wp2_with fail
  go_ret
  exact ⟨rfl, HF.out⟩
end Go.Proofs.Ytgkjkgooonicbaa.Gs
