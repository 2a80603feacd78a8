/- bytes.Equal at alike bytes; two ends of a line in one bundle; the functions lines and lineBegun. -/
import Derived.Test.YtgkjkgooonicbaaLc
import Derived.Laws.BytesArg
namespace Go.Proofs.Ytgkjkgooonicbaa.Lm
open Go Go.RowKit Go.Proofs.Ytgkjkgooonicbaa Go.Proofs.Ytgkjkgooonicbaa.K Go.Proofs.Ytgkjkgooonicbaa.M Go.Proofs.Ytgkjkgooonicbaa.O Go.Proofs.Ytgkjkgooonicbaa.R

def ByRow (w : World) (a : Option Addr) (l : List Nat) : Prop := ∀ j, j < l.length → ∃ x, a = some x ∧ w.cell? (x.add j) = some (.int .u8 ((l.getD j 0 : Nat) : Int))
theorem Body.row {w : World} {a : Option Addr} {n k : Nat} {b : List Nat} (h : Body w (.slice a n k) b) : ByRow w a b ∧ b.length = n := by
  obtain ⟨a', k', e, _, _, _, h3⟩ := h
  simp only [Value.slice.injEq] at e
  obtain ⟨rfl, rfl, rfl⟩ := e
  refine ⟨fun j hj => ?_, rfl⟩
  obtain ⟨g, o, rfl, hc, _⟩ := h3 j hj
  refine ⟨_, rfl, ?_⟩
  have e : (⟨g, o, none⟩ : Addr).add j = ⟨g, o + j, none⟩ := by unfold Addr.add; split <;> simp_all
  rw [e]; exact hc
theorem conv_bytes (w : World) (a : Option Addr) (len cap : Nat) (l : List Nat) (hlen : l.length = len) (h : ByRow w a l) :
    (convert 29 9 (.slice a len cap)).run Try.prog w = .ok (.string (strOfNums (l.map (fun b : Nat => (b : Int))))) w := by
  rcases Nat.eq_zero_or_pos len with h0 | h0
  · subst h0
    have : l = [] := List.eq_nil_of_length_eq_zero hlen
    subst this
    rw [run_convert_bytes_string w 29 9 5 _ 0 cap Try.underlying29 Try.underlying5 Try.underlying9]
    cases a <;> simp [Conv.bytesToString, loadCells]
    all_goals rfl
  · obtain ⟨x, rfl, _⟩ := h 0 (by omega)
    have hl : (loadCells x len).run Try.prog w = .ok ((l.map (fun b : Nat => (b : Int))).map (Value.int .u8)).toArray w := by
      have := run_loadCells_list (P := Try.prog) w x ((l.map (fun b : Nat => (b : Int))).map (Value.int .u8)) (fun j v hj => by
        have hjl : j < l.length := by
          have := (List.getElem?_eq_some_iff.1 hj).1
          simpa using this
        obtain ⟨x', e, hc⟩ := h j hjl
        cases e
        rw [hc]
        simp [List.getElem?_eq_getElem hjl] at hj
        subst hj
        simp [List.getD_eq_getElem?_getD, hjl])
      simpa [hlen] using this
    rw [run_convert_bytes_string w 29 9 5 _ len cap Try.underlying29 Try.underlying5 Try.underlying9, run_bytesToString w _ len cap _ hl, foldl_push_bytes]
    simp [strOfNums, ByteArray.empty, ByteArray.emptyWithCapacity]
    rfl

set_option maxHeartbeats 2000000 in
theorem bytesEq (a b : Option Addr) (n c d : Nat) (l : List Nat) (w : World) (ha : ByRow w a l) (hb : ByRow w b l) (hl : l.length = n) :
    Calls Try.prog 21 #[.slice a n c, .slice b n d] w fun e w' => e = .returned (.bool true) ∧ w' = w := by
  have k1 := conv_bytes w a n c l hl ha
  have k2 := conv_bytes w b n d l hl hb
  obtain ⟨s, hs⟩ : ∃ s, s = strOfNums (l.map (fun b : Nat => (b : Int))) := ⟨_, rfl⟩
  rw [← hs] at k1 k2
  clear hs ha hb hl
  go_enter Try.func21, Try.ntmps21
  go_wp2_with fail
  go_ret
  exact ⟨ret_bool (by simp), rfl⟩

theorem bytes_eq {w : World} {v u : Value} {b : List Nat} (hv : Body w v b) (hu : Body w u b) : Calls Try.prog 21 #[v, u] w fun e w' => e = .returned (.bool true) ∧ w' = w := by
  obtain ⟨a, k, rfl, -⟩ := id hv
  obtain ⟨a', k', rfl, -⟩ := id hu
  exact bytesEq a a' b.length k k' b w hv.row.1 hu.row.1 rfl

/-- Only blocks of ends and rows of bodies changed, none below B. -/
def Step (B : Nat) (w w' : World) : Prop := ∃ S, Upd S w w' ∧ ∀ s ∈ S, B ≤ s ∧ ∃ cur t f, w.heap[s]? = some (.cells cur t f) ∧ (t = 79 ∨ t = 29)
theorem Step.noB {w : World} {S : List Nat} (h : ∀ s ∈ S, ∃ cur t f, w.heap[s]? = some (.cells cur t f) ∧ (t = 79 ∨ t = 29)) : NoB w S := fun s hs ⟨cur, f, hx⟩ => by
  obtain ⟨c, t, f', h1, h2⟩ := h s hs
  rw [h1] at hx
  rcases h2 with rfl | rfl <;> simp at hx
theorem Step.body {B : Nat} {w w' : World} (h : Step B w w') {v : Value} {b : List Nat} (hb : Body w v b) : Body w' v b := by
  obtain ⟨S, u, hs⟩ := h
  exact hb.upd u (Step.noB fun s q => (hs s q).2)
theorem Step.pks {B C : Nat} {w w' : World} (h : Step B w w') {v : Value} {ps : List Pk} (hp : IsPks w C v ps) : IsPks w' C v ps := by
  obtain ⟨S, u, hs⟩ := h
  refine hp.upd u (fun k hk q => ?_) (Step.noB fun s q => (hs s q).2)
  obtain ⟨us, h1, _⟩ := hp
  obtain ⟨cur, h3⟩ := own_block h1 k hk
  obtain ⟨_, c, t, f', h4, h5⟩ := hs k q
  rw [h3] at h4
  rcases h5 with rfl | rfl <;> simp at h4
theorem Step.after {B : Nat} {w0 w w' : World} (u : Upd [] w0 w) (h : Step B w w') (hB : w0.heap.size ≤ B) : Upd [] w0 w' := by
  obtain ⟨S, h1, h2⟩ := h
  exact u.trans h1 (fun t ht => .inr (Nat.le_trans hB (h2 t ht).1))
theorem Step.nil {B : Nat} {w w' : World} (u : Upd [] w w') : Step B w w' := ⟨[], u, fun s hs => by cases hs⟩

/-- Two ends in memory, apart from one another, in blocks from B on. -/
def Two (B gx gy : Nat) (x y : E) (w : World) : Prop := ∃ F G, IsE w F gx x ∧ IsE w G gy y ∧ (∀ s ∈ F, s ∉ G) ∧ (∀ s ∈ F, B ≤ s) ∧ (∀ s ∈ G, B ≤ s) ∧ B ≤ w.heap.size
theorem Two.swap {B gx gy : Nat} {x y : E} {w : World} (h : Two B gx gy x y w) : Two B gy gx y x w := by
  obtain ⟨F, G, h1, h2, h3, h4, h5, h6⟩ := h
  exact ⟨G, F, h2, h1, fun s hs hf => h3 s hf hs, h5, h4, h6⟩
theorem Two.new {B gx gy : Nat} {x y : E} {w w' : World} (h : Two B gx gy x y w) (u : Upd [] w w') : Two B gx gy x y w' := by
  obtain ⟨F, G, h1, h2, h3, h4, h5, h6⟩ := h
  exact ⟨F, G, h1.new u, h2.new u, h3, h4, h5, Nat.le_trans h6 u.size⟩
theorem two_of {B gx gy : Nat} {x y x' : E} {w w' : World} {F G F' : List Nat} (h1 : IsE w F gx x) (h2 : IsE w G gy y) (h3 : ∀ s ∈ F, s ∉ G) (h4 : ∀ s ∈ F, B ≤ s) (h5 : ∀ s ∈ G, B ≤ s) (h6 : B ≤ w.heap.size) (k1 : IsE w' F' gx x') (fr : Fresh w F F') (u : Upd F w w') :
    Two B gx gy x' y w' ∧ Step B w w' := by
  obtain ⟨a1, a2⟩ := h1.apart h2 h3 u fr
  exact ⟨⟨F', G, k1, a1, a2, fun s hs => (fr s hs).elim (h4 s) (fun q => Nat.le_trans h6 q), h5, Nat.le_trans h6 u.size⟩, ⟨F, u, fun s hs => ⟨h4 s hs, h1.at hs⟩⟩⟩
section
variable {B gx gy : Nat} {x y : E} {w : World}
theorem t_put (h : Two B gx gy x y w) {v : Value} {b : List Nat} (hb : Body w v b) (hm : b.length ≤ 1048576) (hf : x.kept.length < x.window) (hw : x.window ≤ 16) :
    Calls Try.prog 16 #[.pointer (some ⟨gx, 0, none⟩), v] w fun r w' => r = .returned (.int .i64 0) ∧ Two B gx gy (eput x b) y w' ∧ Step B w w' := by
  obtain ⟨F, G, h1, h2, h3, h4, h5, h6⟩ := h
  refine (put_yes h1 v b hb hm hf hw).mono ?_
  rintro r w' ⟨F', rfl, k1, k2, k3⟩
  exact ⟨rfl, two_of h1 h2 h3 h4 h5 h6 k1 k2 k3⟩
theorem t_full (h : Two B gx gy x y w) (a : Option Addr) (m k : Nat) (hm : m ≤ 1048576) (hf : x.kept.length = x.window) :
    Calls Try.prog 16 #[.pointer (some ⟨gx, 0, none⟩), .slice a m k] w fun r w' => r = .returned (.int .i64 9) ∧ Two B gx gy x y w' ∧ Upd [] w w' := by
  have h0 := h
  obtain ⟨F, G, h1, h2, h3, h4, h5, h6⟩ := h
  refine (put_no h1 a m k hm hf).mono ?_
  rintro r w' ⟨rfl, _, u⟩
  exact ⟨rfl, h0.new u, u⟩
theorem t_out (h : Two B gx gy x y w) (ok : x.Ok) :
    Calls Try.prog 17 #[.pointer (some ⟨gx, 0, none⟩)] w fun r w' => ∃ v, r = .returned v ∧ IsPks w' w.heap.size v x.out ∧ Two B gx gy x.outE y w' ∧ Step B w w' := by
  obtain ⟨F, G, h1, h2, h3, h4, h5, h6⟩ := h
  refine (out_any h1 ok).mono ?_
  rintro r w' ⟨v, rfl, k1, k2, k3⟩
  exact ⟨v, rfl, k1, two_of h1 h2 h3 h4 h5 h6 k2 (Fresh.refl _ _) k3⟩
theorem t_come (h : Two B gx gy x y w) (ok : x.Ok) (p : Pk) (v : Value) (hv : Body w v p.body) (hp1 : p.window ≤ 16) (hp2 : p.body.length ≤ 1048576) (hp3 : p.ack ≤ 1000000) (hp4 : p.seq ≤ 1000000) (hto : x.told ≤ 100) :
    Calls Try.prog 18 #[.pointer (some ⟨gx, 0, none⟩), .agg #[.int .u32 (p.seq : Int), .int .u32 (p.ack : Int), .bool p.has, .int .i64 (p.window : Int), v]] w fun r w' => r = .returned (.int .i64 0) ∧ Two B gx gy (x.come p) y w' ∧ Step B w w' := by
  obtain ⟨F, G, h1, h2, h3, h4, h5, h6⟩ := h
  refine (come_any h1 ok p v hv hp1 hp2 hp3 hp4 hto).mono ?_
  rintro r w' ⟨F', rfl, k1, k2, k3⟩
  exact ⟨rfl, two_of h1 h2 h3 h4 h5 h6 k1 k2 k3⟩
theorem t_tick (h : Two B gx gy x y w) :
    Calls Try.prog 23 #[.pointer (some ⟨gx, 0, none⟩)] w fun r w' => r = .returned (.tuple #[]) ∧ Two B gx gy (etick x) y w' ∧ Step B w w' := by
  obtain ⟨F, G, h1, h2, h3, h4, h5, h6⟩ := h
  refine (tick_any h1).mono ?_
  rintro r w' ⟨rfl, k1, k2⟩
  exact ⟨rfl, two_of h1 h2 h3 h4 h5 h6 k1 (Fresh.refl _ _) k2⟩
theorem t_got (h : Two B gx gy x y w) :
    Calls Try.prog 25 #[.pointer (some ⟨gx, 0, none⟩)] w fun r w' => ∃ v rs, r = .returned v ∧ w'.ownsRow 0 29 1 v x.read.length rs ∧ Bodies w' rs x.read ∧ Two B gx gy (egot x) y w' ∧ Step B w w' := by
  obtain ⟨F, G, h1, h2, h3, h4, h5, h6⟩ := h
  refine (got_any h1).mono ?_
  rintro r w' ⟨F', v, rs, rfl, k1, k2, k3, k4, k5⟩
  exact ⟨v, rs, rfl, k1, k2, two_of h1 h2 h3 h4 h5 h6 k3 k4 k5⟩
end
def E.new (n : Nat) : E := ⟨n, 0, [], 0, n, 0, [], false⟩

set_option maxHeartbeats 2000000 in
set_option maxRecDepth 100000 in
theorem lines_any (a b : Int) (w : World) :
    Calls Try.prog 14 #[.int .i64 a, .int .i64 b] w fun e w' => ∃ gx gy, e = .returned (.tuple #[.pointer (some ⟨gx, 0, none⟩), .pointer (some ⟨gy, 0, none⟩), .bool true]) ∧ Two w.heap.size gx gy (E.new (1 + restN a 16)) (E.new (1 + restN b 16)) w' ∧ Upd [] w w' := by
  go_enter Try.func14, Try.ntmps14
  go_wp2_with fail
  refine (rest_some _ _ _ (by omega) (by omega)).mono ?_
  rintro e w' ⟨r1, hr1, H1, rfl, rfl⟩
  go_wp2_with fail
  rw [show ((1 : Int) + (r1 : Int)) = ((1 + r1 : Nat) : Int) by omega]
  refine (new_any (1 + r1) _ (by omega) (by omega)).mono ?_
  rintro e w1 ⟨F, gx, rfl, hi, hu, hF⟩
  have I1 := hid hi
  have U1 := hid hu
  have F1 := hid hF
  clear hi hu hF
  go_wp2_with fail
  refine (rest_some _ _ _ (by omega) (by omega)).mono ?_
  rintro e w' ⟨r2, hr2, H2, rfl, rfl⟩
  go_wp2_with fail
  rw [show ((1 : Int) + (r2 : Int)) = ((1 + r2 : Nat) : Int) by omega]
  refine (new_any (1 + r2) _ (by omega) (by omega)).mono ?_
  rintro e w2 ⟨G, gy, rfl, hi, hu, hG⟩
  have I2 := hid hi
  have U2 := hid hu
  have G1 := hid hG
  clear hi hu hG
  go_wp2_with fail
  go_ret3
  refine ⟨gx, gy, rfl, ⟨F, G, ?_, ?_, fun s hs hg => ?_, F1.out, fun s hs => Nat.le_trans U1.out.size (G1.out s hs), Nat.le_trans U1.out.size U2.out.size⟩, U1.out.trans U2.out (fun t ht => by cases ht)⟩
  · rw [← H1.out]; exact I1.out.new U2.out
  · rw [← H2.out]; exact I2.out
  · have h1 := I1.out.lt hs
    have h2 := G1.out s hg
    omega
/-- One packet of a row that a call itself made. -/
theorem IsPks.get {w : World} {B : Nat} {v : Value} {ps : List Pk} (h : IsPks w B v ps) {i : Nat} (hi : i < ps.length) : ∃ g k u, v = .slice (some ⟨g, 0, none⟩) ps.length k ∧ ps.length ≤ k ∧ k ≤ 9223372036854775807 ∧
    w.cell? ⟨g, i * 5, none⟩ = some (.int .u32 ((ps.getD i noPk).seq : Int)) ∧ w.cell? ⟨g, i * 5 + 1, none⟩ = some (.int .u32 ((ps.getD i noPk).ack : Int)) ∧ w.cell? ⟨g, i * 5 + 2, none⟩ = some (.bool (ps.getD i noPk).has) ∧ w.cell? ⟨g, i * 5 + 3, none⟩ = some (.int .i64 ((ps.getD i noPk).window : Int)) ∧ w.cell? ⟨g, i * 5 + 4, none⟩ = some u ∧ Body w u (ps.getD i noPk).body := by
  obtain ⟨us, h1, h2⟩ := h
  have hl : us.length = ps.length := by have := h2.1; simpa using this
  obtain ⟨a, k, e, l1, l2, hc⟩ := own_view h1
  obtain ⟨d0, d1, d2, d3, d4⟩ := pkCells_get ps us hl i hi
  obtain ⟨g, e0, _, c0, _⟩ := hc _ _ d0
  subst e0
  obtain ⟨g', e', _, c1, _⟩ := hc _ _ d1
  cases e'
  obtain ⟨g', e', _, c2, _⟩ := hc _ _ d2
  cases e'
  obtain ⟨g', e', _, c3, _⟩ := hc _ _ d3
  cases e'
  obtain ⟨g', e', _, c4, _⟩ := hc _ _ d4
  cases e'
  have hb := h2.2 i (by simpa using hi)
  have hm : (ps.map (·.body)).getD i [] = (ps.getD i noPk).body := by simp [List.getD_eq_getElem?_getD, hi]
  rw [hm] at hb
  exact ⟨g, k, us.getD i undef, e, l1, l2, c0, c1, c2, c3, c4, hb⟩
theorem IsPks.shape {w : World} {B : Nat} {v : Value} {ps : List Pk} (h : IsPks w B v ps) : ∃ a k, v = .slice a ps.length k ∧ ps.length ≤ k ∧ k ≤ 9223372036854775807 := by
  obtain ⟨us, h1, h2⟩ := h
  obtain ⟨a, k, e, l1, l2, _⟩ := own_view h1
  exact ⟨a, k, e, l1, l2⟩
theorem body_new (w : World) (b : Nat) : Body (w.alloc (.cells #[.int .u8 (b : Int)] 5)) (.slice (some ⟨w.heap.size, 0, none⟩) 1 1) [b] := by
  refine ⟨_, _, rfl, by simp, by omega, fun x hx => by cases hx; exact ⟨_, _, rfl⟩, fun i hi => ?_⟩
  have hb := blk_new w (.cells #[.int .u8 (b : Int)] 5)
  match i, hi with
  | 0, _ => exact ⟨_, 0, rfl, (blk_cell hb _).trans rfl, _, _, hb⟩

set_option maxHeartbeats 4000000 in
set_option maxRecDepth 100000 in
/-- lineBegun answers true. -/
theorem begun_any (w : World) : Calls Try.prog 13 #[] w fun e w' => e = .returned (.bool true) ∧ Upd [] w w' := by
  go_enter Try.func13, Try.ntmps13
  go_wp2_with fail
  refine (lines_any 0 0 w).mono ?_
  rintro e w1 ⟨gx, gy, rfl, ht, hu⟩
  have T1 : Hid (Two w.heap.size gx gy (E.new 1) (E.new 1) w1) := hid ht
  have U1 := hid hu
  clear ht hu
  go_wp2_with fail
  refine (t_put (T1.out.new ((Upd.refl [] _).alloc _)) (body_new w1 7) (by decide) (by decide) (by decide)).mono ?_
  rintro e w2 ⟨rfl, ht, hs⟩
  have T2 := hid ht
  have U2 := hid (hs.after ((U1.out).alloc _) (Nat.le_refl _))
  clear ht hs
  go_wp2_with fail
  refine (t_out T2.out ⟨by decide, by decide, by decide, by decide, by decide, by decide, fun i => ?_⟩).mono ?_
  · cases i with
    | zero => decide
    | succ i => simp [eput, E.new]
  rintro e w3 ⟨v, rfl, hp, ht, hs⟩
  have ho : (eput (E.new 1) [7]).out = [⟨0, 0, true, 1, [7]⟩] := rfl
  rw [ho] at hp
  obtain ⟨g, k, u, rfl, l1, l2, c0, c1, c2, c3, c4, hb⟩ := hp.get (i := 0) (by decide)
  have T3 := hid ht
  have U3 := hid (hs.after U2.out (Nat.le_refl _))
  have HB := hid hb
  obtain ⟨ua, uk, rfl, -⟩ := id hb
  clear ht hs hp hb ho
  go_wp2_with fail
  refine (t_come T3.out.swap ⟨by decide, by decide, by decide, by decide, by decide, by decide, fun i => by simp [E.new]⟩ ⟨0, 0, true, 1, [7]⟩ _ HB.out (by decide) (by decide) (by decide) (by decide) (by decide)).mono ?_
  rintro e w4 ⟨rfl, ht, hs⟩
  have T4 := hid ht
  have U4 := hid (hs.after U3.out (Nat.le_refl _))
  clear ht hs
  go_wp2_with fail
  refine (t_got T4.out).mono ?_
  rintro e w5 ⟨v, rs, rfl, hr, hb, ht, hs⟩
  have U5 := hid (hs.after U4.out (Nat.le_refl _))
  have hrd : ((E.new 1).come ⟨0, 0, true, 1, [7]⟩).read = [[7]] := by decide
  rw [hrd] at hr hb
  obtain ⟨a5, k5, rfl, m1, m2, hc⟩ := own_view hr
  have hb0 := hb.2 0 (by decide)
  obtain ⟨rv, hrv⟩ : ∃ rv, rs = [rv] := by
    match rs, hb.1 with
    | [x], _ => exact ⟨x, rfl⟩
  subst hrv
  obtain ⟨g5, rfl, _, d0, _⟩ := hc 0 rv rfl
  have HB5 : Hid (Body w5 rv [7]) := hid hb0
  obtain ⟨va, vk, rfl, -⟩ := id hb0
  clear hr hb ht hs hc hb0 hrd
  go_wp2_with fail
  refine (bytes_eq (HB5.out.upd ((Upd.refl [] _).alloc _) (NoB.nil _)) (body_new w5 7)).mono ?_
  rintro e w6 ⟨rfl, rfl⟩
  go_wp2_with fail
  go_ret
  exact ⟨rfl, U5.out.alloc _⟩
end Go.Proofs.Ytgkjkgooonicbaa.Lm
