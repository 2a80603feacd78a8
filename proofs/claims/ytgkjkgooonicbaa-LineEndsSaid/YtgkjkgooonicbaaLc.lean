/- An end of a line: Come, the first half: what is answered. -/
import Derived.Test.YtgkjkgooonicbaaLo
import Derived.Deep.CutBlock
namespace Go.Proofs.Ytgkjkgooonicbaa.Lm
open Go Go.RowKit Go.Proofs.Ytgkjkgooonicbaa Go.Proofs.Ytgkjkgooonicbaa.K Go.Proofs.Ytgkjkgooonicbaa.M Go.Proofs.Ytgkjkgooonicbaa.O

/-- An end behind a packet's answer. -/
def E.acked (e : E) (p : Pk) : E :=
  if e.base < p.ack ∧ p.ack ≤ e.base + e.kept.length then { e with kept := e.kept.drop (p.ack - e.base), base := p.ack, told := e.told - (p.ack - e.base), limit := p.window }
  else if p.ack = e.base then { e with limit := max e.limit p.window } else e
theorem E.acked_same (e : E) (p : Pk) : (e.acked p).window = e.window ∧ (e.acked p).read = e.read ∧ (e.acked p).want = e.want ∧ (e.acked p).owe = e.owe := by
  unfold E.acked
  split
  · exact ⟨rfl, rfl, rfl, rfl⟩
  · split <;> exact ⟨rfl, rfl, rfl, rfl⟩
/-- An end behind a packet. -/
def E.come (e : E) (p : Pk) : E :=
  if p.has then (if p.seq = e.want ∧ e.read.length < e.window then { e.acked p with owe := true, read := e.read ++ [p.body], want := e.want + 1 } else { e.acked p with owe := true }) else e.acked p

def laysS_ren : Go.Shelf.Ren := ⟨fun | 41 => 19 | n => n, fun | 22 => 37 | 23 => 29 | 4 => 4 | n => n, fun | n => n⟩
theorem laysS : Go.Proofs.SlLaysE0.n41 Try.prog laysS_ren := {
  mixed := by kernel_rfl
  f41 := ⟨Try.f19.name, by decide, Try.func19.trans (congrArg some (by kernel_rfl))⟩
  t4 := Try.underlying4
  a4 := Try.isAgg4
  z4 := Try.sizeOf4
  v4 := Try.zeroValue4
  t22 := Try.underlying37
  a22 := Try.isAgg37
  z22 := Try.sizeOf37
  v22 := Try.zeroValue37 }
/-- slices.Clone of bodies, from number k on. -/
theorem clone_drop {w : World} {B gk n kk k : Nat} {ks : List Value} (h : w.ownsRow B 29 1 (.slice (some ⟨gk, 0, none⟩) n kk) n ks) (h1 : ∀ u ∈ ks, u.oneCell' = true) (hk : k ≤ n) (hn : n ≤ 100) (a : Addr) (ha : a = ⟨gk, k, none⟩ ∨ (n = k ∧ a = ⟨gk, 0, none⟩)) (c : Nat) :
    Calls Try.prog 19 #[.slice (some a) (n - k) c] w fun e w' => ∃ v', e = .returned v' ∧ w'.ownsRow w.heap.size 29 1 v' (n - k) (ks.drop k) ∧ Upd [] w w' := by
  obtain ⟨i29, hi, hz0, hz1, hz2⟩ := info_parts info29
  have hl : ks.length = n := by have := h.1; omega
  obtain ⟨_, _, e, _, _, hc⟩ := own_view h
  simp only [Value.slice.injEq] at e
  obtain ⟨rfl, -, -⟩ := e
  have fin : ∀ off, (∀ j u, (ks.drop k)[j]? = some u → w.cell? ⟨gk, off + j, none⟩ = some u) → Calls Try.prog 19 #[.slice (some ⟨gk, off, none⟩) (n - k) c] w fun e w' => ∃ v', e = .returned v' ∧ w'.ownsRow w.heap.size 29 1 v' (n - k) (ks.drop k) ∧ Upd [] w w' := fun off hcell => by
    refine (Go.Proofs.AnyE.slices_Clone laysS i29 _ 1 24 hi hz0 hz1 hz2 rfl (by decide) (fun w => by kernel_rfl) gk off (n - k) c (ks.drop k) w (by rw [List.length_drop]; omega) (by unfold maxLen; omega) (by omega) hcell (fun u hu => h1 u (List.mem_of_mem_drop hu))).mono ?_
    rintro e w' ⟨v', rfl, ho, _, hb⟩
    exact ⟨v', rfl, ho, Upd.of_below hb []⟩
  rcases ha with rfl | ⟨rfl, rfl⟩
  · refine fin k (fun j u hu => ?_)
    rw [List.getElem?_drop] at hu
    obtain ⟨g', e', _, c', _⟩ := hc (k + j) u hu
    cases e'
    exact c'
  · refine fin 0 (fun j u hu => ?_)
    rw [List.drop_of_length_le (by omega)] at hu
    simp at hu

/-- A packet handed in: its cells. -/
def PkB (w : World) (P : Nat) (p : Pk) (v : Value) : Prop := w.heap[P]? = some (.cells #[.int .u32 (p.seq : Int), .int .u32 (p.ack : Int), .bool p.has, .int .i64 (p.window : Int), v] 34 (0, 0))
theorem wrap_ack {a b : Nat} (ha : a ≤ 1000000) (hb : b ≤ 1000000) : ∃ uz kz : Int, IntKind.u32.wrap ((a : Int) - (b : Int)) = uz ∧ IntKind.i32.wrap uz = kz ∧ IntKind.i64.wrap kz = kz ∧ kz = (a : Int) - (b : Int) := by
  refine ⟨_, (a : Int) - (b : Int), rfl, ?_, IntWalk.i64_in _ (by omega), rfl⟩
  rw [IntKind.wrap_u32, IntKind.wrap_i32]
  omega

/-- What is answered is kept no more: the end in memory. -/
theorem ack_fin {w w1 w2 w5 : World} {g P n k : Nat} {e : E} {p : Pk} {vk vr : Value} {ks rs : List Value} {vb : Value} {v' : Value} (I1 : IsE0 w1 g e vk vr ks rs) (hP : P = w.heap.size) (hz : P < w1.heap.size) (_ : P ≤ w1.heap.size)
    (ua : Upd [] w w1) (u1 : Upd [] w1 w2) (ho : w2.ownsRow w1.heap.size 29 1 v' (n - k) (ks.drop k)) (u5 : Upd [g] w2 w5)
    (hb : w5.heap[g]? = some (.cells #[.int .i64 (e.window : Int), .int .u32 (p.ack : Int), v', .int .i64 ((e.told - k : Nat) : Int), .int .i64 (p.window : Int), .int .u32 (e.want : Int), vr, .bool e.owe] 79 (0, 0)))
    (pb : PkB w1 P p vb) (hv : Body w1 vb p.body) (hk : k ≤ n) (hn : n = e.kept.length) (ha : p.ack = e.base + k) (h0 : 0 < k) :
    ∃ vk' ks', IsE0 w5 g (e.acked p) vk' vr ks' rs ∧ Fresh w (foot g vk vr) (foot g vk' vr) ∧ Upd (foot g vk vr) w w5 ∧ PkB w5 P p vb ∧ Body w5 vb p.body ∧ P ∉ foot g vk' vr ∧ P < w5.heap.size := by
  have hold : ∀ s ∈ foot g vk vr, s < w1.heap.size := fun s hs => I1.lt hs
  have ng1 : NoB w2 [g] := fun s hs ⟨cur, f, hx⟩ => by
    simp at hs; subst hs; rw [u1.blk I1.blk (by simp)] at hx; simp at hx
  have ge := own_ge ho
  have hgP : g ≠ P := fun e1 => by
    have := pb; unfold PkB at this; rw [← e1, I1.blk] at this; simp at this
  have hac : e.acked p = { e with kept := e.kept.drop k, base := p.ack, told := e.told - k, limit := p.window } := by
    unfold E.acked
    rw [if_pos ⟨by omega, by omega⟩, show p.ack - e.base = k by omega]
  have kg : ∀ x, v'.ownBlock = some x → x ≠ g := fun x hx e1 => by
    have h1 := ge x hx
    have h2 := hold g (mem_foot.2 (.inl rfl))
    omega
  have hfP : ∀ s ∈ foot g vk vr, s ≠ P := fun s hs e1 => by
    subst e1
    obtain ⟨cur, t, f, q1, q2⟩ := I1.foot_at hs
    unfold PkB at pb
    rw [pb] at q1
    rcases q2 with rfl | rfl <;> simp at q1
  refine ⟨v', ks.drop k, ?_, fun s hs => ?_, ?_, u5.blk (u1.blk pb (by simp)) (by simp; exact fun q => hgP q.symm), (hv.upd u1 (NoB.nil _)).upd u5 ng1, fun hs => ?_, ?_⟩
  · rw [hac]
    refine ⟨hb, ?_, own_upd (own_new I1.read u1) u5 (fun x hx hs => by simp at hs; subst hs; exact I1.gr hx), ((I1.kb.drop k).upd u1 (NoB.nil _)).upd u5 ng1, (I1.rb.upd u1 (NoB.nil _)).upd u5 ng1, fun x hx hr => ?_⟩
    · show w5.ownsRow 0 29 1 v' (e.kept.drop k).length (ks.drop k)
      rw [List.length_drop, ← hn]
      exact own_mono (own_upd ho u5 (fun x hx hs => by simp at hs; exact kg x hx hs)) (Nat.zero_le _)
    · have h1 := ge x hx
      have h2 := hold x (mem_foot.2 (.inr (.inr hr)))
      omega
  · rcases mem_foot.1 hs with q | q | q
    · exact .inl (mem_foot.2 (.inl q))
    · exact .inr (Nat.le_trans ua.size (ge s q))
    · exact .inl (mem_foot.2 (.inr (.inr q)))
  · exact ((ua.trans u1 (fun t ht => by cases ht)).mono (fun s hs => by cases hs)).trans u5 (fun t ht => .inl (by simp at ht; subst ht; exact mem_foot.2 (.inl rfl)))
  · rcases mem_foot.1 hs with q | q | q
    · exact hgP q.symm
    · have := ge P q; omega
    · exact hfP P (mem_foot.2 (.inr (.inr q))) rfl
  · exact Nat.lt_of_lt_of_le hz (Nat.le_trans u1.size u5.size)

/-- A body is taken in: the end in memory. -/
theorem acc_fin {w3 w4 w5 w6 : World} {g r wa : Nat} {e3 e6 : E} {vk : Value} {ks rs : List Value} {ra : Option Addr} {rk : Nat} {vb v' : Value} {b : List Nat} (K : IsE0 w3 g e3 vk (.slice ra r rk) ks rs) (u34 : Upd [] w3 w4)
    (hb : Body w4 vb b) (uw : Upd (Value.slice ra r rk).ownBlock.toList w4 w5) (u2 : Upd (Value.slice ra r rk).ownBlock.toList w3 w5) (ho : w5.ownsRow 0 29 1 v' (r + 1) (rs ++ [vb])) (hl : ∀ k, v'.ownBlock = some k → (Value.slice ra r rk).ownBlock = some k ∨ (w4.alloc (.cells #[vb] 29)).heap.size ≤ k)
    (u6 : Upd [g] w5 w6) (he : e6 = { e3 with read := e3.read ++ [b], want := wa }) (hr : r = e3.read.length)
    (hb6 : w6.heap[g]? = some (.cells #[.int .i64 (e6.window : Int), .int .u32 (e6.base : Int), vk, .int .i64 (e6.told : Int), .int .i64 (e6.limit : Int), .int .u32 (e6.want : Int), v', .bool e6.owe] 79 (0, 0))) :
    IsE0 w6 g e6 vk v' ks (rs ++ [vb]) ∧ (∀ s ∈ foot g vk v', s ∈ foot g vk (.slice ra r rk) ∨ w3.heap.size ≤ s) ∧ Upd (foot g vk (.slice ra r rk)) w3 w6 := by
  have hz := u34.size
  have hl' : ∀ k, v'.ownBlock = some k → (Value.slice ra r rk).ownBlock = some k ∨ w3.heap.size ≤ k := fun k hk => (hl k hk).imp id (fun q => by simp at q; omega)
  have rF : ∀ s, s ∈ (Value.slice ra r rk).ownBlock.toList → s ∈ foot g vk (.slice ra r rk) := fun s hs => mem_foot.2 (.inr (.inr (by simpa using hs)))
  have gn : g ∉ (Value.slice ra r rk).ownBlock.toList := fun hg => K.gr (by simpa using hg)
  have nb : NoB w3 (Value.slice ra r rk).ownBlock.toList := fun s hs => K.noB s (rF s hs)
  have b5 := u2.blk K.blk gn
  have ng : NoB w5 [g] := fun s hs ⟨cur, f, hx⟩ => by simp at hs; subst hs; rw [b5] at hx; simp at hx
  have kk : ∀ x, vk.ownBlock = some x → x ∉ (Value.slice ra r rk).ownBlock.toList := fun x hx hs => K.kr x hx (by simpa using hs)
  have nb4 : NoB w4 (Value.slice ra r rk).ownBlock.toList := fun s hs hx => by
    obtain ⟨cur, f, hx⟩ := hx
    obtain ⟨c, ho2⟩ := own_block K.read s (by simpa using hs)
    rw [u34.blk ho2 (by simp)] at hx
    simp at hx
  subst he
  refine ⟨⟨hb6, own_upd (own_upd K.kept u2 kk) u6 (fun x hx hs => by simp at hs; subst hs; exact K.gk hx), ?_, (K.kb.upd u2 nb).upd u6 ng, (((K.rb.upd u2 nb).snoc (hb.upd uw nb4)).upd u6 ng), fun x hx hv => ?_⟩, fun s hs => ?_, ?_⟩
  · show w6.ownsRow 0 29 1 v' (e3.read ++ [b]).length _
    rw [List.length_append, ← hr]
    exact own_upd ho u6 (fun x hx hs => by simp at hs; exact own_cells_ne ho b5 (by decide) x hx hs)
  · rcases hl' x hv with q | q
    · exact K.kr x hx q
    · have := own_lt K.kept x hx; omega
  · rcases mem_foot.1 hs with q | q | q
    · exact .inl (mem_foot.2 (.inl q))
    · exact .inl (mem_foot.2 (.inr (.inl q)))
    · rcases hl' s q with q | q
      · exact .inl (mem_foot.2 (.inr (.inr q)))
      · exact .inr q
  · exact (u2.mono (fun s hs => .inl (rF s hs))).trans u6 (fun t ht => .inl (by simp at ht; subst ht; exact mem_foot.2 (.inl rfl)))

set_option maxHeartbeats 1000000 in
set_option maxRecDepth 100000 in
theorem come_any {w : World} {F : List Nat} {g : Nat} {e : E} (h : IsE w F g e) (ok : e.Ok) (p : Pk) (v : Value) (hv : Body w v p.body) (hp1 : p.window ≤ 16) (hp2 : p.body.length ≤ 1048576) (hp3 : p.ack ≤ 1000000) (_hp4 : p.seq ≤ 1000000) (hto : e.told ≤ 100) :
    Calls Try.prog 18 #[.pointer (some ⟨g, 0, none⟩), .agg #[.int .u32 (p.seq : Int), .int .u32 (p.ack : Int), .bool p.has, .int .i64 (p.window : Int), v]] w fun r w' => ∃ F', r = .returned (.int .i64 0) ∧ IsE w' F' g (e.come p) ∧ Fresh w F F' ∧ Upd F w w' := by
  obtain ⟨i29, hi29, hz29a, hz29b, hz29c⟩ := info_parts info29
  have HI29 := hid hi29
  have HA29 := hid hz29a
  have HB29 := hid hz29b
  have HC29 := hid hz29c
  clear hi29 hz29a hz29b hz29c
  obtain ⟨vk, vr, ks, rs, h0, hF⟩ := h
  subst hF
  have c1 := h0.cells.2.1
  have hba := ok.base
  obtain ⟨ba, hb⟩ : ∃ x, x = e.base := ⟨_, rfl⟩
  obtain ⟨sq, hsq⟩ : ∃ x, x = p.seq := ⟨_, rfl⟩
  obtain ⟨ak, hak⟩ : ∃ x, x = p.ack := ⟨_, rfl⟩
  obtain ⟨hs, hhs⟩ : ∃ x, x = p.has := ⟨_, rfl⟩
  obtain ⟨wn, hwn⟩ : ∃ x, x = p.window := ⟨_, rfl⟩
  rw [← hb] at c1 hba
  rw [← hak] at hp3
  rw [← hwn] at hp1
  obtain ⟨uz, kz, z1, z2, z3, z4⟩ := wrap_ack hp3 hba
  have HBV := hid hv
  obtain ⟨va, vc, ev, -⟩ := hv
  subst ev
  obtain ⟨bl, hbl⟩ : ∃ x, x = p.body.length := ⟨_, rfl⟩
  rw [← hbl] at hp2
  rw [← hsq, ← hak, ← hhs, ← hwn, ← hbl]
  have H0 := hid h0
  have OK := hid ok
  have HBA := hid hb
  have HSQ := hid hsq
  have HAK := hid hak
  have HHS := hid hhs
  have HWN := hid hwn
  have HBL := hid hbl
  have Z4 := hid z4
  have hl2 : ¬ (1048576 : Int) < (bl : Int) := by omega
  have hl3 : ¬ (16 : Int) < (wn : Int) := by omega
  have gl := World.block_lt_of_cell? w _ c1
  simp only at gl
  clear h0 ok hb hsq hak hhs hwn hbl z4
  go_enter Try.func18, Try.ntmps18
  go_wp2_with fail
  go_quiet (fail)
  go_upto_block 0 with (fail)
  obtain ⟨P, hP⟩ : ∃ P, P = w.heap.size := ⟨_, rfl⟩
  obtain ⟨w1, hw1⟩ : ∃ w1, w1 = (w.alloc (.cells #[.int .u32 (sq : Int), .int .u32 (ak : Int), .bool hs, .int .i64 (wn : Int), .slice va bl vc] 34)).drewN nq := ⟨_, rfl⟩
  have UA : Hid (Upd [] w w1) := hid (by rw [hw1]; exact ((Upd.refl [] w).alloc _).drewN _)
  have PB1 : Hid (PkB w1 P p (.slice va bl vc)) := hid (by rw [hw1, hP]; unfold PkB; rw [← HSQ.out, ← HAK.out, ← HHS.out, ← HWN.out]; exact blk_new w _)
  have SZ1 : P < w1.heap.size := by rw [hw1, hP]; simp
  rw [← hw1, ← hP]
  rw [← hP] at gl
  have HP := hid hP
  clear hw1 hP c1
  have I1 := hid (H0.out.upd UA.out (fun s hs => by cases hs) (NoB.nil _))
  have B1 := hid (HBV.out.upd UA.out (NoB.nil _))
  have FP : Hid (∀ s ∈ foot g vk vr, s < P) := hid (fun s hs => by rw [HP.out]; exact H0.out.lt hs)
  go_cut [] from 27 to 85 (fun wx => ∃ vk' ks', IsE0 wx g (e.acked p) vk' vr ks' rs ∧ Fresh w (foot g vk vr) (foot g vk' vr) ∧ Upd (foot g vk vr) w wx ∧ PkB wx P p (.slice va bl vc) ∧ Body wx (.slice va bl vc) p.body ∧ P ∉ foot g vk' vr ∧ P < wx.heap.size)
  case first =>
    obtain ⟨c0, c1, c2, c3, c4, c5, c6, c7, cf⟩ := I1.out.cells
    obtain ⟨ka, kk, e1, l1, l2, -⟩ := own_view I1.out.kept
    subst e1
    obtain ⟨n, hn⟩ : ∃ x, x = e.kept.length := ⟨_, rfl⟩
    obtain ⟨tl, htl⟩ : ∃ x, x = e.told := ⟨_, rfl⟩
    obtain ⟨lm, hlm⟩ : ∃ x, x = e.limit := ⟨_, rfl⟩
    rw [← hn] at c2 l1
    rw [← HBA.out] at c1
    rw [← htl] at c3
    rw [← hlm] at c4
    have hn16 : n ≤ 16 := by rw [hn]; exact Nat.le_trans OK.out.kept OK.out.win
    have pb3 : w1.cell? ⟨P, 3, none⟩ = some (.int .i64 (wn : Int)) := by rw [HWN.out]; exact (blk_cell PB1.out 3).trans rfl
    have HN := hid hn
    have hto' : tl ≤ 100 := by rw [htl]; exact hto
    have HTL := hid htl
    have HLM := hid hlm
    have z4 := Z4.out
    have gP : g ≠ P := by omega
    have nP : Hid (P ∉ foot g (.slice ka e.kept.length kk) vr) := hid (fun hs => by have := FP.out P hs; omega)
    clear hn htl hlm c0 c5 c6 c7
    by_cases hA : 0 < kz ∧ kz ≤ (n : Int)
    · obtain ⟨k, rfl⟩ : ∃ k : Nat, kz = (k : Int) := ⟨kz.toNat, by omega⟩
      obtain ⟨hk1, hk2⟩ := hA
      have hkn : k ≤ n := by omega
      have hka : ka ≠ none := fun hk => by
        have := I1.out.kept.2
        rw [hk] at this
        rcases this with ⟨_, hq⟩ | ⟨g', cap, cur, hq, _⟩
        · have := I1.out.kept.1; rw [hq] at this; have h2 := HN.out; simp at this; omega
        · simp at hq
      obtain ⟨gk, rfl⟩ : ∃ gk, ka = some ⟨gk, 0, none⟩ := by
        rcases I1.out.kept.2 with ⟨hq, _⟩ | ⟨g', cap, cur, hq, _⟩
        · simp only [Value.slice.injEq] at hq; exact absurd hq.1 hka
        · simp only [Value.slice.injEq] at hq; exact ⟨g', hq.1⟩
      have OWK : Hid (w1.ownsRow 0 29 1 (.slice (some ⟨gk, 0, none⟩) n kk) n ks) := hid (by rw [HN.out]; exact I1.out.kept)
      have hks := I1.out.kb.ones
      have CL := hid (fun a ha c => clone_drop OWK.out hks hkn (by omega) a ha c)
      obtain ⟨td, htd⟩ : ∃ td : Nat, max 0 ((tl : Int) - (k : Int)) = (td : Int) := ⟨tl - k, by omega⟩
      have hmax := fun ats ty => max_nat ats ty .i64 .i64 0 ((tl : Int) - (k : Int)) td htd
      have HTD : Hid (td = tl - k) := hid (by omega)
      have w32 : IntKind.u32.wrap (k : Int) = (k : Int) := IntWalk.u32_in _ (by omega)
      obtain ⟨ab, hab⟩ : ∃ ab, ab = ba + k := ⟨_, rfl⟩
      have w33 : IntKind.u32.wrap ((ba : Int) + (k : Int)) = (ab : Int) := by rw [show (ba : Int) + (k : Int) = (ab : Int) by omega]; exact IntWalk.u32_in _ (by omega)
      have HAB := hid hab
      have hkk : (k : Int) ≤ (kk : Int) := by omega
      have HKB := hid (show ak = ba + k by omega)
      have HKN := hid hkn
      clear hab hks hka htd z1 z2 z3 z4 hkn
      have HTO := hid hto
      by_cases hkk2 : kk = k
      · have CL1 := hid (clone_drop OWK.out I1.out.kb.ones HKN.out (by omega) ⟨gk, 0, none⟩ (.inr ⟨by have := HKN.out; omega, rfl⟩) 0)
        have HMX := hid hmax
        have W32 := hid w32
        have W33 := hid w33
        have PB3 := hid pb3
        clear hmax w32 w33 hto' pb3 _hp4 hto hba hp3 hp1 hp2 hl2 hl3 gP hn16
        go_wp2_with fail
        refine CL1.out.mono ?_
        rintro q w2 ⟨v', rfl, ho, hu⟩
        have HO := hid ho
        have U1 := hid hu
        have b2 := hid (hu.blk I1.out.blk (by simp))
        have c1 : w2.cell? ⟨g, 1, none⟩ = some (.int .u32 (ba : Int)) := by rw [HBA.out]; exact (blk_cell b2.out 1).trans rfl
        have c3 : w2.cell? ⟨g, 3, none⟩ = some (.int .i64 (tl : Int)) := by rw [HTL.out]; exact (blk_cell b2.out 3).trans rfl
        have c2 := (blk_cell b2.out 2).trans rfl
        have c4 := (blk_cell b2.out 4).trans rfl
        have cf := blk_frozen b2.out
        have pb3 : w2.cell? ⟨P, 3, none⟩ = some (.int .i64 (wn : Int)) := hu.cell PB3.out (by simp)
        have hmax := HMX.out
        have w32 := W32.out
        have w33 := W33.out
        have hto' : tl ≤ 100 := by rw [HTL.out]; exact HTO.out
        obtain ⟨va2, vc2, ev, -⟩ := own_view ho
        subst ev
        clear ho hu
        clear CL
        go_wp2_with fail
        go_meet
        have hk := HKN.out
        have u5 := (((((Upd.refl [g] w2).setCell (p := ⟨g, 2, none⟩) (.inl (by simp)) (.slice va2 (n - k) vc2)).setCell (p := ⟨g, 1, none⟩) (.inl (by simp)) (.int .u32 (ab : Int))).setCell (p := ⟨g, 3, none⟩) (.inl (by simp)) (.int .i64 (td : Int))).setCell (p := ⟨g, 4, none⟩) (.inl (by simp)) (.int .i64 (wn : Int)))
        have b5 := blk_set (blk_set (blk_set (blk_set b2.out 2 (.slice va2 (n - k) vc2)) 1 (.int .u32 (ab : Int))) 3 (.int .i64 (td : Int))) 4 (.int .i64 (wn : Int))
        have e1 : ab = p.ack := by rw [HAB.out, ← HKB.out, HAK.out]
        have e2 : td = e.told - k := by rw [HTD.out, HTL.out]
        exact ack_fin (n := n) (k := k) I1.out HP.out SZ1 (by rw [HP.out]; exact UA.out.size) UA.out U1.out HO.out u5 (by rw [b5, e1, e2, HWN.out]; rfl) PB1.out (by rw [HBL.out]; exact B1.out) hk HN.out (by rw [← HAK.out, HKB.out, HBA.out]) (by omega)
      · have hkk3 : ((kk : Int) == (k : Int)) = false := by rw [beq_eq_false_iff_ne]; omega
        have HMX := hid hmax
        have W32 := hid w32
        have W33 := hid w33
        have PB3 := hid pb3
        clear hmax w32 w33 hto' pb3 _hp4 hto hba hp3 hp1 hp2 hl2 hl3 gP hn16
        go_wp2_with fail
        refine (CL.out ⟨gk, k, none⟩ (.inl rfl) _).mono ?_
        rintro q w2 ⟨v', rfl, ho, hu⟩
        have HO := hid ho
        have U1 := hid hu
        have b2 := hid (hu.blk I1.out.blk (by simp))
        have c1 : w2.cell? ⟨g, 1, none⟩ = some (.int .u32 (ba : Int)) := by rw [HBA.out]; exact (blk_cell b2.out 1).trans rfl
        have c3 : w2.cell? ⟨g, 3, none⟩ = some (.int .i64 (tl : Int)) := by rw [HTL.out]; exact (blk_cell b2.out 3).trans rfl
        have c2 := (blk_cell b2.out 2).trans rfl
        have c4 := (blk_cell b2.out 4).trans rfl
        have cf := blk_frozen b2.out
        have pb3 : w2.cell? ⟨P, 3, none⟩ = some (.int .i64 (wn : Int)) := hu.cell PB3.out (by simp)
        have hmax := HMX.out
        have w32 := W32.out
        have w33 := W33.out
        have hto' : tl ≤ 100 := by rw [HTL.out]; exact HTO.out
        obtain ⟨va2, vc2, ev, -⟩ := own_view ho
        subst ev
        clear ho hu
        clear CL
        go_wp2_with fail
        go_meet
        have hk := HKN.out
        have u5 := (((((Upd.refl [g] w2).setCell (p := ⟨g, 2, none⟩) (.inl (by simp)) (.slice va2 (n - k) vc2)).setCell (p := ⟨g, 1, none⟩) (.inl (by simp)) (.int .u32 (ab : Int))).setCell (p := ⟨g, 3, none⟩) (.inl (by simp)) (.int .i64 (td : Int))).setCell (p := ⟨g, 4, none⟩) (.inl (by simp)) (.int .i64 (wn : Int)))
        have b5 := blk_set (blk_set (blk_set (blk_set b2.out 2 (.slice va2 (n - k) vc2)) 1 (.int .u32 (ab : Int))) 3 (.int .i64 (td : Int))) 4 (.int .i64 (wn : Int))
        have e1 : ab = p.ack := by rw [HAB.out, ← HKB.out, HAK.out]
        have e2 : td = e.told - k := by rw [HTD.out, HTL.out]
        exact ack_fin (n := n) (k := k) I1.out HP.out SZ1 (by rw [HP.out]; exact UA.out.size) UA.out U1.out HO.out u5 (by rw [b5, e1, e2, HWN.out]; rfl) PB1.out (by rw [HBL.out]; exact B1.out) hk HN.out (by rw [← HAK.out, HKB.out, HBA.out]) (by omega)
    · by_cases hB : kz = 0
      · subst hB
        obtain ⟨mm, hmm⟩ : ∃ mm : Nat, max (lm : Int) (wn : Int) = (mm : Int) := ⟨max lm wn, by omega⟩
        have hmax := fun ats ty => max_nat ats ty .i64 .i64 (lm : Int) (wn : Int) mm hmm
        have HMM : Hid (mm = max lm wn) := hid (by omega)
        have HKB := hid (show ak = ba by omega)
        have KEEP : Hid (∀ wz, Upd [] w1 wz → wz.cell? ⟨g, 4, none⟩ = some (.int .i64 (lm : Int)) ∧ wz.cell? ⟨P, 3, none⟩ = some (.int .i64 (wn : Int))) := hid (fun wz u => ⟨u.cell c4 (by simp), u.cell pb3 (by simp)⟩)
        have gl1 := World.block_lt_of_cell? w1 _ c4
        clear hmm z1 z2 z3 z4 hA pb3
        go_upto_region 12 with (fail)
        refine J.J_begin (fun wz => wz.cell? ⟨g, 4, none⟩ = some (.int .i64 (lm : Int)) ∧ wz.cell? ⟨P, 3, none⟩ = some (.int .i64 (wn : Int))) 10 (by kernel_rfl) ⟨by kernel_rfl, by kernel_rfl, by kernel_rfl⟩ (KEEP.out _ (Upd.refl _ _).drew) (fun LAST HS => ?_)
        refine J.J_take (i := 0) (v := ?_) LAST (by rfl) (by decide) (by kernel_rfl) (by kernel_rfl) (by intro _ _ _ h; exact h) HS (Or.inl ⟨by rfl, ?_⟩) ?_
        rotate_left
        · intro w hSw; (try dsimp only at hSw); go_simp; try with_reducible rfl
        try simp only [Act.put, List.setIfInBounds_toArray, List.set_cons_zero, List.set_cons_succ]
        refine J.J_take (i := 1) (v := ?_) LAST (by rfl) (by decide) (by kernel_rfl) (by kernel_rfl) (by intro _ _ _ h; exact h) HS (Or.inl ⟨by rfl, ?_⟩) ?_
        rotate_left
        · intro w hSw; (try dsimp only at hSw); go_simp; try with_reducible rfl
        try simp only [Act.put, List.setIfInBounds_toArray, List.set_cons_zero, List.set_cons_succ]
        refine J.J_take (i := 2) (v := ?_) LAST (by rfl) (by decide) (by kernel_rfl) (by kernel_rfl) (by intro _ _ _ h; exact h) HS (Or.inl ⟨by rfl, ?_⟩) ?_
        rotate_left
        · intro w hSw; (try dsimp only at hSw); go_simp; try with_reducible rfl
        try simp only [Act.put, List.setIfInBounds_toArray, List.set_cons_zero, List.set_cons_succ]
        refine J.J_take (i := 3) (v := ?_) LAST (by rfl) (by decide) (by kernel_rfl) (by kernel_rfl) (by intro _ _ _ h; exact h) HS (Or.inl ⟨by rfl, ?_⟩) ?_
        rotate_left
        · intro w hSw; (try dsimp only at hSw); go_simp; try with_reducible rfl
        try simp only [Act.put, List.setIfInBounds_toArray, List.set_cons_zero, List.set_cons_succ]
        refine J.J_take (i := 4) (v := ?_) LAST (by rfl) (by decide) (by kernel_rfl) (by kernel_rfl) (by intro _ _ _ h; exact h) HS (Or.inl ⟨by rfl, ?_⟩) ?_
        rotate_left
        · intro w hSw; (try dsimp only at hSw); go_simp; try with_reducible rfl
        try simp only [Act.put, List.setIfInBounds_toArray, List.set_cons_zero, List.set_cons_succ]
        refine J.J_take (i := 5) (v := ?_) LAST (by rfl) (by decide) (by kernel_rfl) (by kernel_rfl) (by intro _ _ _ h; exact h) HS (Or.inl ⟨by rfl, ?_⟩) ?_
        rotate_left
        · intro w hSw; (try dsimp only at hSw); go_simp; try with_reducible rfl
        try simp only [Act.put, List.setIfInBounds_toArray, List.set_cons_zero, List.set_cons_succ]
        refine J.J_take (i := 6) (v := ?_) LAST (by rfl) (by decide) (by kernel_rfl) (by kernel_rfl) (by intro _ _ _ h; exact h) HS (Or.inl ⟨by rfl, ?_⟩) ?_
        rotate_left
        · intro w hSw; (try dsimp only at hSw); go_simp; try with_reducible rfl
        try simp only [Act.put, List.setIfInBounds_toArray, List.set_cons_zero, List.set_cons_succ]
        refine J.J_take (i := 7) (v := ?_) LAST (by rfl) (by decide) (by kernel_rfl) (by kernel_rfl) (by intro _ _ _ h; exact h) HS (Or.inl ⟨by rfl, ?_⟩) ?_
        rotate_left
        · intro w hSw; (try dsimp only at hSw); go_simp; try with_reducible rfl
        try simp only [Act.put, List.setIfInBounds_toArray, List.set_cons_zero, List.set_cons_succ]
        refine J.J_take (i := 8) (v := ?_) LAST (by rfl) (by decide) (by kernel_rfl) (by kernel_rfl) (by intro _ _ _ h; exact h) HS (Or.inl ⟨by rfl, ?_⟩) ?_
        rotate_left
        · intro w hSw; (try dsimp only at hSw); go_simp; try with_reducible rfl
        try simp only [Act.put, List.setIfInBounds_toArray, List.set_cons_zero, List.set_cons_succ]
        refine J.J_take (i := 9) (v := ?_) LAST (by rfl) (by decide) (by kernel_rfl) (by kernel_rfl) (by intro _ _ _ h; exact h) HS (Or.inl ⟨by rfl, ?_⟩) ?_
        rotate_left
        · intro w hSw; (try dsimp only at hSw); go_simp; try with_reducible rfl
        try simp only [Act.put, List.setIfInBounds_toArray, List.set_cons_zero, List.set_cons_succ]
        refine J.J_last (by rfl) (by kernel_rfl) (by kernel_rfl) ?_
        go_simp
        go_wp2_with fail
        go_meet
        have u5 := ((Upd.refl [g] w1).drew).setCell (p := ⟨g, 4, none⟩) (.inl (by simp)) (.int .i64 (mm : Int))
        have b5 := blk_set (show w1.drew.heap[g]? = _ from I1.out.blk) 4 (.int .i64 (mm : Int))
        have hac : e.acked p = { e with limit := max e.limit p.window } := by
          unfold E.acked
          rw [if_neg (by rw [← HAK.out, HKB.out, HBA.out]; omega), if_pos (by rw [← HAK.out, HKB.out, HBA.out])]
        have ng1 : NoB w1 [g] := fun s hs ⟨cur, f, hx⟩ => by simp at hs; subst hs; rw [I1.out.blk] at hx; simp at hx
        refine ⟨_, ks, ?_, Fresh.refl _ _, (UA.out.mono (fun s hs => by cases hs)).trans u5 (fun t ht => .inl (by simp at ht; subst ht; exact mem_foot.2 (.inl rfl))), u5.blk PB1.out (by simp; exact fun q => gP q.symm), (by rw [HBL.out]; exact B1.out.upd u5 ng1), nP.out, Nat.lt_of_lt_of_le SZ1 u5.size⟩
        rw [hac]
        exact I1.out.re u5 rfl rfl (by refine Eq.trans (show _ = some _ from b5) ?_; rw [HMM.out, HLM.out, HWN.out]; rfl)
      · have hac : e.acked p = e := by
          unfold E.acked
          rw [if_neg (by rw [← HAK.out, ← HBA.out, ← HN.out]; omega), if_neg (by rw [← HAK.out, ← HBA.out]; omega)]
        have HAC := hid hac
        have hB' : (kz == 0) = false := by rw [beq_eq_false_iff_ne]; exact hB
        have fin : Hid (∃ vk' ks', IsE0 w1 g (e.acked p) vk' vr ks' rs ∧ Fresh w (foot g (.slice ka e.kept.length kk) vr) (foot g vk' vr) ∧ Upd (foot g (.slice ka e.kept.length kk) vr) w w1 ∧ PkB w1 P p (.slice va bl vc) ∧ Body w1 (.slice va bl vc) p.body ∧ P ∉ foot g vk' vr ∧ P < w1.heap.size) := hid ⟨_, ks, by rw [hac]; exact I1.out, Fresh.refl _ _, UA.out.mono (fun s hs => by cases hs), PB1.out, by rw [HBL.out]; exact B1.out, nP.out, SZ1⟩
        by_cases hC : 0 < kz
        · have hC2 : ¬ kz ≤ (n : Int) := fun q => hA ⟨hC, q⟩
          clear z1 z2 z3 z4 hac hA hB
          go_wp2_with fail
          go_meet
          exact fin.out
        · clear z1 z2 z3 z4 hac hA hB
          go_wp2_with fail
          go_meet
          exact fin.out
  obtain ⟨vk', ks', k1, fr, uu, pb, bd, nP, sz⟩ := hcut
  obtain ⟨s1, s2, s3, s4⟩ := E.acked_same e p
  obtain ⟨c0, -, -, -, -, c5, c6, c7, cf⟩ := k1.cells
  obtain ⟨ra, rk, e1, l1, l2, -⟩ := own_view k1.read
  subst e1
  obtain ⟨wd, hwd⟩ : ∃ x, x = e.window := ⟨_, rfl⟩
  obtain ⟨wa, hwa⟩ : ∃ x, x = e.want := ⟨_, rfl⟩
  obtain ⟨r, hr⟩ : ∃ x, x = e.read.length := ⟨_, rfl⟩
  have hr2 : (e.acked p).read.length = r := by rw [s2, hr]
  have o1 : wd ≤ 16 := by rw [hwd]; exact OK.out.win
  have o2 : r ≤ wd := by rw [hr, hwd]; exact OK.out.read
  have o3 : wa ≤ 1000000 := by rw [hwa]; exact OK.out.want
  rw [s1, ← hwd] at c0
  rw [s3, ← hwa] at c5
  rw [hr2] at c6 l1
  have q0 : wc.cell? ⟨P, 0, none⟩ = some (.int .u32 (sq : Int)) := by rw [HSQ.out]; exact (blk_cell pb 0).trans rfl
  have q2 : wc.cell? ⟨P, 2, none⟩ = some (.bool hs) := by rw [HHS.out]; exact (blk_cell pb 2).trans rfl
  have q4 : wc.cell? ⟨P, 4, none⟩ = some (.slice va bl vc) := (blk_cell pb 4).trans rfl
  have K1 := hid k1
  have FR := hid fr
  have UU := hid uu
  have PB := hid pb
  have BD := hid bd
  have NP := hid nP
  have HWD := hid hwd
  have HWA := hid hwa
  have HR := hid hr
  have HR2 := hid hr2
  have S1 := hid s1
  have S2 := hid s2
  have S3 := hid s3
  have gP : g ≠ P := by omega
  clear k1 fr uu pb bd nP hwd hwa hr hr2 s1 s2 s3 s4 I1 B1 UA PB1 SZ1
  cases hs with
  | false =>
    go_wp2_with fail
    go_ret
    have hc : e.come p = e.acked p := by unfold E.come; rw [← HHS.out]; rfl
    exact ⟨_, rfl, ⟨vk', _, ks', rs, by rw [hc]; exact K1.out, rfl⟩, FR.out, UU.out⟩
  | true =>
    have b1 := hid (blk_set K1.out.blk 7 (.bool true))
    have u1 := hid ((Upd.refl [g] wc).setCell (p := ⟨g, 7, none⟩) (.inl (by simp)) (.bool true))
    obtain ⟨w3, hw3⟩ : ∃ w3, w3 = wc.setCell ⟨g, 7, none⟩ (.bool true) := ⟨_, rfl⟩
    have ng1 : NoB wc [g] := fun s hs ⟨cur, f, hx⟩ => by simp at hs; subst hs; rw [K1.out.blk] at hx; simp at hx
    have K3 : Hid (IsE0 w3 g { e.acked p with owe := true } vk' (.slice ra (e.acked p).read.length rk) ks' rs) := hid (by rw [hw3]; exact K1.out.re u1.out rfl rfl (b1.out.trans rfl))
    have U3 : Hid (Upd [g] wc w3) := hid (by rw [hw3]; exact u1.out)
    have BD3 := hid (BD.out.upd U3.out ng1)
    have q0' : w3.cell? ⟨P, 0, none⟩ = some (.int .u32 (sq : Int)) := U3.out.cell q0 (by simp; exact fun q => gP q.symm)
    have q4' : w3.cell? ⟨P, 4, none⟩ = some (.slice va bl vc) := U3.out.cell q4 (by simp; exact fun q => gP q.symm)
    obtain ⟨d0, -, -, -, -, d5, d6, -, df⟩ := K3.out.cells
    rw [show ({ e.acked p with owe := true } : E).window = (e.acked p).window from rfl, S1.out, ← HWD.out] at d0
    rw [show ({ e.acked p with owe := true } : E).want = (e.acked p).want from rfl, S3.out, ← HWA.out] at d5
    rw [HR2.out] at d6
    have sz3 : P < w3.heap.size := Nat.lt_of_lt_of_le sz U3.out.size
    have UF : Hid (Upd (foot g vk (.slice ra (e.acked p).read.length rk)) w w3) := hid (UU.out.trans U3.out (fun t ht => .inl (by simp at ht; subst ht; exact mem_foot.2 (.inl rfl))))
    go_upto_region 16 with (fail)
    rw [← hw3]
    clear hw3 b1 u1 ng1 c0 c5 c6 c7 cf q0 q2 q4
    by_cases hacc : sq = wa ∧ r < wd
    · obtain ⟨h1, h2⟩ := hacc
      subst h1
      have h2' : (r : Int) < (wd : Int) := by omega
      have hc : e.come p = { e.acked p with owe := true, read := e.read ++ [p.body], want := e.want + 1 } := by
        unfold E.come
        rw [← HHS.out, if_pos rfl, if_pos ⟨by rw [← HSQ.out, ← HWA.out], by rw [← HR.out, ← HWD.out]; exact h2⟩]
      have HC := hid hc
      have OW : Hid (w3.ownsRow 0 29 1 (.slice ra r rk) r rs) := hid (by have := K3.out.read; rw [show ({ e.acked p with owe := true } : E).read.length = (e.acked p).read.length from rfl, HR2.out] at this; exact this)
      have KEEP : Hid (∀ wz, Upd [] w3 wz → wz.cell? ⟨g, 6, none⟩ = some (.slice ra r rk) ∧ wz.cell? ⟨P, 4, none⟩ = some (.slice va bl vc)) := hid (fun wz u => ⟨u.cell d6 (by simp), u.cell q4' (by simp)⟩)
      have U0 : Hid (∀ k, Upd [] w3 (w3.drewN k)) := hid (fun k => (Upd.refl [] w3).drewN k)
      have g3 : Hid (g < w3.heap.size) := hid (by omega)
      clear hc h2
      go_quiet (fail)
      go_upto_region 17 with (fail)
      clear d0 d5 d6 df q0' q4' h2'
      refine J.J_begin (fun wz => wz.cell? ⟨g, 6, none⟩ = some (.slice ra r rk) ∧ wz.cell? ⟨P, 4, none⟩ = some (.slice va bl vc)) 12 (by kernel_rfl) ⟨by kernel_rfl, by kernel_rfl, by kernel_rfl⟩ (KEEP.out _ (U0.out _).drew) (fun LAST HS => ?_)
      refine J.J_take (i := 0) (v := ?_) LAST (by rfl) (by decide) (by kernel_rfl) (by kernel_rfl) (by intro _ _ _ h; exact h) HS (Or.inl ⟨by rfl, ?_⟩) ?_
      rotate_left
      · intro w hSw; (try dsimp only at hSw); go_simp; try with_reducible rfl
      try simp only [Act.put, List.setIfInBounds_toArray, List.set_cons_zero, List.set_cons_succ]
      refine J.J_take (i := 1) (v := ?_) LAST (by rfl) (by decide) (by kernel_rfl) (by kernel_rfl) (by intro _ _ _ h; exact h) HS (Or.inl ⟨by rfl, ?_⟩) ?_
      rotate_left
      · intro w hSw; (try dsimp only at hSw); go_simp; try with_reducible rfl
      try simp only [Act.put, List.setIfInBounds_toArray, List.set_cons_zero, List.set_cons_succ]
      refine J.J_take (i := 2) (v := ?_) LAST (by rfl) (by decide) (by kernel_rfl) (by kernel_rfl) (by intro _ _ _ h; exact h) HS (Or.inl ⟨by rfl, ?_⟩) ?_
      rotate_left
      · intro w hSw; (try dsimp only at hSw); go_simp; try with_reducible rfl
      try simp only [Act.put, List.setIfInBounds_toArray, List.set_cons_zero, List.set_cons_succ]
      refine J.J_take (i := 3) (v := ?_) LAST (by rfl) (by decide) (by kernel_rfl) (by kernel_rfl) (by intro _ _ _ h; exact h) HS (Or.inl ⟨by rfl, ?_⟩) ?_
      rotate_left
      · intro w hSw; (try dsimp only at hSw); go_simp; try with_reducible rfl
      try simp only [Act.put, List.setIfInBounds_toArray, List.set_cons_zero, List.set_cons_succ]
      refine J.J_take (i := 4) (v := ?_) LAST (by rfl) (by decide) (by kernel_rfl) (by kernel_rfl) (by intro _ _ _ h; exact h) HS (Or.inl ⟨by rfl, ?_⟩) ?_
      rotate_left
      · intro w hSw; (try dsimp only at hSw); go_simp; try with_reducible rfl
      try simp only [Act.put, List.setIfInBounds_toArray, List.set_cons_zero, List.set_cons_succ]
      refine J.J_take (i := 5) (v := ?_) LAST (by rfl) (by decide) (by kernel_rfl) (by kernel_rfl) (by intro _ _ _ h; exact h) HS (Or.inl ⟨by rfl, ?_⟩) ?_
      rotate_left
      · intro w hSw; (try dsimp only at hSw); go_simp; try with_reducible rfl
      try simp only [Act.put, List.setIfInBounds_toArray, List.set_cons_zero, List.set_cons_succ]
      refine J.J_take (i := 6) (v := ?_) LAST (by rfl) (by decide) (by kernel_rfl) (by kernel_rfl) (by intro _ _ _ h; exact h) HS (Or.inl ⟨by rfl, ?_⟩) ?_
      rotate_left
      · intro w hSw; (try dsimp only at hSw); go_simp; try with_reducible rfl
      try simp only [Act.put, List.setIfInBounds_toArray, List.set_cons_zero, List.set_cons_succ]
      refine J.J_one (i := 7) (by rfl) (by decide) (by kernel_rfl) (fun KK hK => ?_)
      go_simp
      refine (clone_body (BD3.out.upd (U0.out _) (NoB.nil _)) (by have := HBL.out; omega)).mono ?_
      rintro q w4 ⟨v', rfl, hb1, hu1⟩
      obtain ⟨ya, yc, ev, -⟩ := id hb1
      rw [← HBL.out] at ev
      subst ev
      have HB1 := hid hb1
      have V1 := hid ((U0.out _).trans hu1 (fun t ht => by cases ht))
      clear hb1 hu1
      have HS1 := KEEP.out _ V1.out
      go_wp2_with fail
      refine hK.out _ _ HS1 ?_
      clear hK KK HS
      try simp only [List.setIfInBounds_toArray]
      refine J.J_one (i := 8) (by rfl) (by decide) (by kernel_rfl) (fun KK hK => ?_)
      go_simp
      refine hK.out _ _ (KEEP.out _ (V1.out.alloc _)) ?_
      clear hK KK
      try simp only [List.setIfInBounds_toArray]
      have n1 := hid (own_new OW.out (V1.out.alloc (.cells #[.slice ya bl yc] 29)))
      refine J.J_one (i := 9) (by rfl) (by decide) (by kernel_rfl) (fun KK hK => ?_)
      refine J.step_app rfl (.tmp 115) (.tmp 119) 37 rfl 0 29 i29 _ 1 24 Try.underlying37 HI29.out HA29.out HB29.out HC29.out rfl (by decide) (.slice ra r rk) r rs (by rfl) n1.out ⟨w4.heap.size, 0, none⟩ 1 1 [.slice ya bl yc] (by rfl) rfl (fun j u hj => by rw [show (⟨w4.heap.size, 0, none⟩ : Addr).add j = ⟨w4.heap.size, j, none⟩ by unfold Addr.add; split <;> simp_all]; refine (K.blk_cell (blk_new _ _) j).trans ?_; simpa using hj) (by intro u hu; simp at hu; subst hu; rfl) (by unfold maxLen; omega) (by omega) (by omega) ?_
      intro v2 w5 ho hu2 hl2
      obtain ⟨a4, k4, e4, -⟩ := own_view ho
      subst e4
      have UW := hid (((Upd.refl [] w4).alloc (.cells #[.slice ya bl yc] 29)).mono (T := (Value.slice ra r rk).ownBlock.toList) (fun s hs => by cases hs) |>.trans hu2 (fun t ht => .inl ht))
      have U2 := hid ((V1.out.mono (T := (Value.slice ra r rk).ownBlock.toList) (fun s hs => by cases hs)).trans UW.out (fun t ht => .inl ht))
      have HO := hid ho
      have HL2 := hid hl2
      have gn : g ∉ (Value.slice ra r rk).ownBlock.toList := fun hg => by
        have := K3.out.gr
        rw [HR2.out] at this
        simp at hg
        exact this hg
      have b2 := hid (U2.out.blk K3.out.blk gn)
      have cz : w5.cell? ⟨g, 6, none⟩ = some (.slice ra r rk) := by rw [← HR2.out]; exact (blk_cell b2.out 6).trans rfl
      have c5z : w5.cell? ⟨g, 5, none⟩ = some (.int .u32 (sq : Int)) := by rw [HWA.out, ← S3.out]; exact (blk_cell b2.out 5).trans rfl
      have fz := blk_frozen b2.out
      have P2 : Hid (P ∉ (Value.slice ra r rk).ownBlock.toList) := hid (fun hs => NP.out (mem_foot.2 (.inr (.inr (by rw [HR2.out]; simpa using hs)))))
      have HS2 : w5.cell? ⟨g, 6, none⟩ = some (.slice ra r rk) ∧ w5.cell? ⟨P, 4, none⟩ = some (.slice va bl vc) := ⟨cz, U2.out.cell (KEEP.out _ (Upd.refl _ _)).2 P2.out⟩
      clear ho hu2 hl2 gn
      refine hK.out _ _ HS2 ?_
      clear hK KK HS1
      try simp only [Act.put, List.setIfInBounds_toArray, List.set_cons_zero, List.set_cons_succ]
      refine J.J_take (i := 10) (v := ?_) LAST (by rfl) (by decide) (by kernel_rfl) (by kernel_rfl) (by intro _ _ _ h; exact h) HS2 (Or.inl ⟨by rfl, ?_⟩) ?_
      rotate_left
      · intro w hSw; (try dsimp only at hSw); go_simp; try with_reducible rfl
      try simp only [Act.put, List.setIfInBounds_toArray, List.set_cons_zero, List.set_cons_succ]
      refine J.J_take (i := 11) (v := ?_) LAST (by rfl) (by decide) (by kernel_rfl) (by kernel_rfl) (by intro _ _ _ h; exact h) HS2 (Or.inl ⟨by rfl, ?_⟩) ?_
      rotate_left
      · intro w hSw; (try dsimp only at hSw); go_simp; try with_reducible rfl
      try simp only [Act.put, List.setIfInBounds_toArray, List.set_cons_zero, List.set_cons_succ]
      clear HS2
      have w33 : IntKind.u32.wrap ((sq : Int) + 1) = ((sq + 1 : Nat) : Int) := by rw [show (sq : Int) + 1 = ((sq + 1 : Nat) : Int) by omega]; exact IntWalk.u32_in _ (by omega)
      refine J.J_last (by rfl) (by kernel_rfl) (by kernel_rfl) ?_
      go_simp
      go_wp2_with fail
      go_ret
      have K4 : IsE0 w3 g { e.acked p with owe := true } vk' (.slice ra r rk) ks' rs := by rw [← HR2.out]; exact K3.out
      have u6 := ((Upd.refl [g] w5).setCell (p := ⟨g, 6, none⟩) (.inl (by simp)) (.slice a4 (r + 1) k4)).setCell (p := ⟨g, 5, none⟩) (.inl (by simp)) (.int .u32 ((sq : Int) + 1))
      have b6 := blk_set (blk_set b2.out 6 (.slice a4 (r + 1) k4)) 5 (.int .u32 ((sq : Int) + 1))
      obtain ⟨f1, f2, f3⟩ := acc_fin K4 V1.out HB1.out UW.out U2.out HO.out HL2.out u6 (wa := e.want + 1) (e6 := e.come p) (by rw [HC.out, S2.out]) (by rw [← HR2.out]) (by rw [b6, HC.out, HWA.out]; rfl)
      have UF' := UF.out
      have FR' := FR.out
      rw [HR2.out] at UF' FR' ⊢
      have hr4 : ∀ s ∈ foot g vk' (.slice a4 (r + 1) k4), s ∈ foot g vk (.slice ra r rk) ∨ w.heap.size ≤ s := fun s hs => by
        rcases f2 s hs with q | q
        · exact FR' s q
        · exact .inr (Nat.le_trans UF'.size q)
      first
        | exact ⟨_, rfl, ⟨_, _, _, _, f1, rfl⟩, hr4, UF'.trans f3 (fun t ht => (FR' t ht).elim .inl .inr)⟩
        | exact ⟨rfl, _, ⟨_, _, _, _, f1, rfl⟩, hr4, UF'.trans f3 (fun t ht => (FR' t ht).elim .inl .inr)⟩
    · have hc : e.come p = { e.acked p with owe := true } := by
        unfold E.come
        rw [← HHS.out, if_pos rfl, if_neg (by rw [← HSQ.out, ← HWA.out, ← HR.out, ← HWD.out]; exact hacc)]
      have HC := hid hc
      have fin : Hid (∀ wz, Upd [] w3 wz → (∃ F', IsE wz F' g (e.come p) ∧ Fresh w (foot g vk (.slice ra (e.acked p).read.length rk)) F' ∧ Upd (foot g vk (.slice ra (e.acked p).read.length rk)) w wz)) := hid (fun wz u => ⟨_, ⟨vk', _, ks', rs, by rw [HC.out]; exact K3.out.upd u (fun s hs => by cases hs) (NoB.nil _), rfl⟩, FR.out, UF.out.trans u (fun t ht => by cases ht)⟩)
      clear hc
      by_cases h1 : sq = wa
      · have h2 : ¬ (r : Int) < (wd : Int) := fun q => hacc ⟨h1, by omega⟩
        have h1' : ((sq : Int) == (wa : Int)) = true := by rw [beq_iff_eq]; omega
        clear hacc h1
        go_quiet (fail)
        go_wp2_with fail
        go_ret
        obtain ⟨F', f1, f2, f3⟩ := fin.out _ ((Upd.refl _ _).drewN _)
        first | exact ⟨F', rfl, f1, f2, f3⟩ | exact ⟨rfl, F', f1, f2, f3⟩
      · have h1' : ((sq : Int) == (wa : Int)) = false := by rw [beq_eq_false_iff_ne]; omega
        clear hacc h1
        go_quiet (fail)
        go_wp2_with fail
        go_ret
        obtain ⟨F', f1, f2, f3⟩ := fin.out _ ((Upd.refl _ _).drewN _)
        first | exact ⟨F', rfl, f1, f2, f3⟩ | exact ⟨rfl, F', f1, f2, f3⟩
end Go.Proofs.Ytgkjkgooonicbaa.Lm
