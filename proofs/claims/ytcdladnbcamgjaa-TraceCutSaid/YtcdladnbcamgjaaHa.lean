/- A history in memory, and what is called with it: the contracts in the form in which the laws' walks use them. -/
import Derived.Test.YtcdladnbcamgjaaCm
import Derived.Test.YtcdladnbcamgjaaCkOrd
namespace Go.Proofs.Ytcdladnbcamgjaa.Ha
open Go Go.RowKit Go.Proofs.Ytcdladnbcamgjaa.K Go.Proofs.Ytcdladnbcamgjaa.M Go.Proofs.Ytcdladnbcamgjaa.Ev Go.Proofs.Ytcdladnbcamgjaa.Ck Go.Proofs.Ytcdladnbcamgjaa.O Go.Proofs.Ytcdladnbcamgjaa.R Go.Proofs.Ytcdladnbcamgjaa.CL Go.Proofs.Ytcdladnbcamgjaa.CW Go.Proofs.Ytcdladnbcamgjaa.Th Go.Proofs.Ytcdladnbcamgjaa.Cu Go.Proofs.Ytcdladnbcamgjaa.CuT Go.Proofs.Ytcdladnbcamgjaa.Ah Go.Proofs.Ytcdladnbcamgjaa.Cv Go.Proofs.Ytcdladnbcamgjaa.Cw Go.Proofs.Ytcdladnbcamgjaa.Cm

structure HistAt (w : World) (b : Option Addr) (cap : Nat) (l : List Ev) (n : Nat) : Prop where
  row : EvRow w b l
  len : n = l.length
  lc : n ≤ cap
  c : cap ≤ 9223372036854775807
  small : n ≤ 60
  valid : Valid l
theorem HistAt.upd {w w' : World} {b : Option Addr} {cap : Nat} {l : List Ev} {n : Nat} (h : HistAt w b cap l n) (u : Upd [] w w') : HistAt w' b cap l n := ⟨h.row.upd u, h.len, h.lc, h.c, h.small, h.valid⟩
/-- A cut in memory. -/
structure CutAt (w : World) (g : Nat) (l : List Ev) (c : List Int) : Prop where
  row : IntRow w (some ⟨g, 0, none⟩) c
  cut : VCut l c
theorem CutAt.upd {w w' : World} {g : Nat} {l : List Ev} {c : List Int} (h : CutAt w g l c) (u : Upd [] w w') : CutAt w' g l c := ⟨h.row.upd u, h.cut⟩

theorem hist_at (a : Option Addr) (len cap : Nat) (xs : List Int) (w : World) (hx : IntRow w a xs) (hl : xs.length = len) (hlc : len ≤ cap) (hc : cap ≤ 9223372036854775807) :
    Calls Try.prog 20 #[.slice a len cap] w fun e w' => ∃ (l : List Ev) (n : Nat) (b : Option Addr) (cap' : Nat), e = .returned (.slice b n cap') ∧ Hid (HistAt w' b cap' l n) ∧ n ≤ 60 ∧ n ≤ cap' ∧ cap' ≤ 9223372036854775807 ∧ Upd [] w w' :=
  (CkOrd.hist_short a len cap xs w hx hl hlc hc).mono fun _ _ ⟨l, a', cap', h1, h2, h3, h4, h5, h6, h7⟩ => ⟨l, l.length, a', cap', h1, ⟨h2.out, rfl, h3, h4, h6, h5.out⟩, h6, h3, h4, h7⟩
section
variable {w : World} {b : Option Addr} {cap : Nat} {l : List Ev} {n : Nat}
theorem H_cut (h : HistAt w b cap l n) {m : Nat} {bb : Option Addr} (mc : Nat) {ys : List Int} (hb : IntRow w bb ys) (hyl : ys.length = m) :
    Calls Try.prog 35 #[.slice b n cap, .slice bb m mc] w fun e w' => ∃ C c, e = .returned (.slice (some ⟨C, 0, none⟩) 8 8) ∧ Hid (CutAt w' C l c) ∧ Upd [] w w' := by
  obtain ⟨h1, rfl, h3, h4, h5, h6⟩ := h
  exact (cut_law b cap l bb m mc ys w h1 (by omega) h6 hb hyl).mono fun _ _ ⟨C, c, e, r, v, u⟩ => ⟨C, c, e, ⟨r, v⟩, u⟩
theorem H_least (h : HistAt w b cap l n) {g : Nat} (cc : Nat) {c : List Int} (hc : CutAt w g l c) :
    Calls Try.prog 34 #[.slice b n cap, .slice (some ⟨g, 0, none⟩) 8 cc] w fun e w' => ∃ g' c', e = .returned (.tuple #[.slice (some ⟨g', 0, none⟩) 8 c', .int .i64 0]) ∧ Hid (CutAt w' g' l (least l c)) ∧ Upd [] w w' := by
  obtain ⟨h1, rfl, h3, h4, h5, h6⟩ := h
  exact (least_call b cap l g cc c w h1 h3 h4 (by omega) h6 hc.row hc.cut).mono fun _ _ ⟨C, c', e, r, u⟩ => ⟨C, c', e, ⟨r, least_vcut h6 c⟩, u⟩
theorem H_most (h : HistAt w b cap l n) {g : Nat} (cc : Nat) {c : List Int} (hc : CutAt w g l c) :
    Calls Try.prog 36 #[.slice b n cap, .slice (some ⟨g, 0, none⟩) 8 cc] w fun e w' => ∃ g' c' m, e = .returned (.tuple #[.slice (some ⟨g', 0, none⟩) 8 c', .int .i64 0]) ∧ Hid (CutAt w' g' l m) ∧ Hid (IsMost l c m) ∧ Upd [] w w' := by
  obtain ⟨h1, rfl, h3, h4, h5, h6⟩ := h
  exact (most_call b cap l g cc c w h1 h3 h4 (by omega) h6 hc.row hc.cut).mono fun _ _ ⟨C, c', m, e, r, hm, u⟩ => ⟨C, c', m, e, ⟨r, hm.cut⟩, hm, u⟩
theorem H_whole (h : HistAt w b cap l n) {g : Nat} (cc : Nat) {c : List Int} (hc : CutAt w g l c) :
    Calls Try.prog 33 #[.slice b n cap, .slice (some ⟨g, 0, none⟩) 8 cc] w fun e w' => ∃ B : Bool, e = .returned (.tuple #[.bool B, .int .i64 0]) ∧ Hid (B = true ↔ Whole l c) ∧ Upd [] w w' := by
  obtain ⟨h1, rfl, h3, h4, h5, h6⟩ := h
  exact whole_call b cap l g cc c w h1 h3 h4 (by omega) h6 hc.row hc.cut
theorem H_whole_yes (h : HistAt w b cap l n) {g : Nat} (cc : Nat) {c : List Int} (hc : CutAt w g l c) (hw : Whole l c) :
    Calls Try.prog 33 #[.slice b n cap, .slice (some ⟨g, 0, none⟩) 8 cc] w fun e w' => e = .returned (.tuple #[.bool true, .int .i64 0]) ∧ Upd [] w w' :=
  (H_whole h cc hc).mono fun _ _ ⟨B, e, hB, u⟩ => by
    obtain rfl : B = true := hB.out.2 hw
    exact ⟨e, u⟩
theorem H_join (h : HistAt w b cap l n) {g : Nat} (cc : Nat) {c : List Int} (hc : CutAt w g l c) {g2 : Nat} (cc2 : Nat) {d : List Int} (hd : CutAt w g2 l d) :
    Calls Try.prog 38 #[.slice b n cap, .slice (some ⟨g, 0, none⟩) 8 cc, .slice (some ⟨g2, 0, none⟩) 8 cc2] w fun e w' => ∃ g' c', e = .returned (.tuple #[.slice (some ⟨g', 0, none⟩) 8 c', .int .i64 0]) ∧ Hid (CutAt w' g' l (joinL c d)) ∧ Upd [] w w' := by
  obtain ⟨h1, rfl, h3, h4, h5, h6⟩ := h
  exact (join_call b cap l g cc c g2 cc2 d w h1 h3 h4 (by omega) h6 hc.row hc.cut hd.row hd.cut).mono fun _ _ ⟨C, c', e, r, u⟩ => ⟨C, c', e, ⟨r, vcut_join hc.cut hd.cut⟩, u⟩
theorem H_meet (h : HistAt w b cap l n) {g : Nat} (cc : Nat) {c : List Int} (hc : CutAt w g l c) {g2 : Nat} (cc2 : Nat) {d : List Int} (hd : CutAt w g2 l d) :
    Calls Try.prog 40 #[.slice b n cap, .slice (some ⟨g, 0, none⟩) 8 cc, .slice (some ⟨g2, 0, none⟩) 8 cc2] w fun e w' => ∃ g' c', e = .returned (.tuple #[.slice (some ⟨g', 0, none⟩) 8 c', .int .i64 0]) ∧ Hid (CutAt w' g' l (meetL c d)) ∧ Upd [] w w' := by
  obtain ⟨h1, rfl, h3, h4, h5, h6⟩ := h
  exact (meet_call b cap l g cc c g2 cc2 d w h1 h3 h4 (by omega) h6 hc.row hc.cut hd.row hd.cut).mono fun _ _ ⟨C, c', e, r, u⟩ => ⟨C, c', e, ⟨r, vcut_meet hc.cut hd.cut⟩, u⟩
theorem H_clocks (h : HistAt w b cap l n) :
    Calls Try.prog 24 #[.slice b n cap] w fun e w' => ∃ b' c, e = .returned (.tuple #[.slice b' n c, .int .i64 0]) ∧ Hid (Ah.Rows w' b' l) ∧ n ≤ c ∧ c ≤ 9223372036854775807 ∧ Upd [] w w' := by
  obtain ⟨h1, rfl, h3, h4, h5, h6⟩ := h
  exact clocks_rows b cap l w h1 h3 h4 (by omega) h6
end
theorem H_inside {w : World} {l : List Ev} {g : Nat} (cc : Nat) {c : List Int} (hc : CutAt w g l c) {g2 : Nat} (cc2 : Nat) {d : List Int} (hd : CutAt w g2 l d) {B : Bool} (hB : B = true ↔ Le c d) :
    Calls Try.prog 37 #[.slice (some ⟨g, 0, none⟩) 8 cc, .slice (some ⟨g2, 0, none⟩) 8 cc2] w fun e w' => e = .returned (.bool B) ∧ Upd [] w w' :=
  (inside_law g cc c g2 cc2 d w hc.row hc.cut.len hd.row hd.cut.len).mono fun _ _ ⟨e, q, hw⟩ => ⟨by rw [e]; exact ret_bool (by rw [Bool.eq_iff_iff, leB_iff, hB]), by rw [hw]; exact (Upd.refl [] w).drewN q⟩
theorem H_equal {w : World} {l : List Ev} {g : Nat} (cc : Nat) {c : List Int} (hc : CutAt w g l c) {g2 : Nat} (cc2 : Nat) {d : List Int} (hd : CutAt w g2 l d) {B : Bool} (hB : B = true ↔ c = d) :
    Calls Try.prog 30 #[.slice (some ⟨g, 0, none⟩) 8 cc, .slice (some ⟨g2, 0, none⟩) 8 cc2] w fun e w' => e = .returned (.bool B) ∧ Upd [] w w' :=
  (EQ.equal_any _ 8 cc c _ 8 cc2 d w hc.row hc.cut.len hd.row hd.cut.len (by omega) (by omega)).mono fun _ _ ⟨e, q, hw⟩ => ⟨by rw [e]; exact ret_bool (by rw [Bool.eq_iff_iff, decide_eq_true_eq, hB]), by rw [hw]; exact (Upd.refl [] w).drewN q⟩
end Go.Proofs.Ytcdladnbcamgjaa.Ha
