/- TL: parts FnsYM3, FnsYC3, FnsYD3a, FnsYD3b, FnsYD3c, FnsYD3d, FnsYD3, FnsYVn. -/
import Derived.Test.YtndfipgiaeeheaaGreatDoorGh
import Derived.Test.YtndfipgiaeeheaaGreatDoorGd
import Derived.Test.YtndfipgiaeeheaaGreatDoorGg
import Derived.Test.YtndfipgiaeeheaaGreatDoorGe
/- Drawn desks. -/
set_option linter.unusedSimpArgs false
set_option linter.unusedVariables false
set_option maxRecDepth 100000
set_option maxHeartbeats 4000000
set_option pp.maxSteps 1500
namespace TL
open Go Go.Proofs
attribute [local simp] marksV storyV codeV Claim.v Place.v Deed.v Desk.v
/-- A contract's result, read in another way. -/
theorem FnS.up {f : Nat} {m : Mem} {n : Nat} {args : List T} {post post' : T → Mem → Nat → Prop} (h : FnS Tryz.prog f m n args post)
    (hp : ∀ t m' n', post t m' n' → ∃ t', (∀ φ Z w v, RepT φ Z w t v → RepT φ Z w t' v) ∧ post' t' m' n') : FnS Tryz.prog f m n args post' := by
  refine ⟨h.1, fun φ Z w us hm hr => (h.2 φ Z w us hm hr).mono fun e w' hh => ?_⟩
  obtain ⟨v, φ', Z', m', n', t, rfl, h1, h2, h3, h4⟩ := hh
  obtain ⟨t', h5, h6⟩ := hp _ _ _ h4
  exact ⟨v, φ', Z', m', n', t', rfl, h1, h5 _ _ _ _ h2, h3, h6⟩
theorem nil_up {φ : Phi} {Z : Zs} {w : World} {a b c : T} {v : Value} (h : RepT φ Z w (.tup [.agg [a, .nil, b], c]) v) : RepT φ Z w (.tup [.agg [a, .v (.sl []), b], c]) v := by
  cases h with
  | tup h => cases h with
    | cons h1 h2 => cases h1 with
      | agg h3 => cases h3 with
        | cons h4 h5 => cases h5 with
          | cons h6 h7 => cases h6; exact .tup (.cons (.agg (.cons h4 (.cons (.v (.nil none 0)) h7))) h2)
theorem deskNewS_up (p : Place) (hp : p.small) (hf : p.fit) (m : Mem) (n : Nat) : FnS Tryz.prog 40 m n [.v p.v] (fun t m' n' => n ≤ n' ∧ (∀ j, j < n → m' j = m j) ∧
    t = .tup [.agg [.v (.int .i64 (deskNew p).now.people), .v (storyV (deskNew p).now.story), .nil], .v (.bool (placeOk p))]) := by
  refine (deskNewS_mut p hp hf m n).up ?_
  rintro t m' n' ⟨h1, h2, ⟨h3, rfl⟩ | ⟨h3, rfl⟩⟩
  · have e : deskNew p = ⟨p, []⟩ := if_pos h3
    rw [e, h3]
    exact ⟨_, fun _ _ _ _ h => h, h1, h2, rfl⟩
  · have e : deskNew p = noDeskV := if_neg (by simp [h3])
    rw [e, h3]
    exact ⟨_, fun _ _ _ _ h => nil_up h, h1, h2, rfl⟩
theorem do_len (d : Desk) (a : Deed) : (deskDo d a).1.past.length ≤ d.past.length + 1 := by
  rcases deskDo_ways d a with ⟨h1, e⟩ | ⟨_, hb, hp, e⟩ | ⟨h1, _, hg, e⟩ | ⟨_, _, e⟩
  · rw [e]; simp [noDeskV]
  · rw [e]; simp; omega
  · rw [e]; simp only [keep8]; split <;> simp <;> omega
  · rw [e]; simp
def DoAny (d : Desk) (m : Mem) (n : Nat) (t : T) (m' : Mem) (n' : Nat) : Prop := n ≤ n' ∧ (∀ j, j < n → m' j = m j) ∧ ∃ (y0 y1 y2 : T) (b : Bool), t = .tup [.agg [y0, y1, y2], .v (.bool b)] ∧ y0.cell = true ∧ y1.cell = true ∧ y2.cell = true ∧
  (b = true → ∃ y : Desk, deskOk y = true ∧ y0 = .v (.int .i64 y.now.people) ∧ y1 = .v (storyV y.now.story) ∧ PastT m' n n' y2 y.past ∧ y.past.length ≤ d.past.length + 1)
theorem deskDoS_any (d : Desk) (a : Deed) (P : T) (hd : deskOk d = true ∨ (d = noDeskV ∧ P = .nil)) (h7 : d.past.length ≤ 7) (ha : a.words.length ≤ 1000000000) (m : Mem) (n : Nat) (hP : PastT m 0 n P d.past) :
    FnS Tryz.prog 7 m n [.agg [.v (.int .i64 d.now.people), .v (storyV d.now.story), P], .v a.v] (DoAny d m n) := by
  rcases hd with hk | ⟨rfl, rfl⟩
  · refine (deskDoS_mut d a hk h7 ha P m n hP).weak ?_
    rintro t m' n' ⟨h1, h2, st, rfl, h3⟩
    exact ⟨h1, h2, _, _, _, _, rfl, rfl, rfl, h3.cell, fun _ => ⟨_, deskDo_ok d a hk, rfl, rfl, h3, do_len d a⟩⟩
  · refine (deskDoS_none a m n).weak ?_
    rintro t m' n' ⟨h1, h2, rfl⟩
    exact ⟨h1, h2, _, _, _, _, rfl, rfl, rfl, rfl, fun h => by cases h⟩
def SomeDesk (x : V) : Prop := ∃ d : Desk, d.small ∧ d.fit ∧ d.now.story.length ≤ 1000 ∧ x = d.v
structure DkEnv (m0 : Mem) (n0 rid : Nat) (bs : List UInt8) (k : Int) (s : S) (id : Nat) (d : Desk) (P : T) (p : Nat) : Prop where
  t0 : s.tm 0 = .ptr rid 0
  t1 : s.tm 1 = .v (.int .i64 k)
  t4 : s.tm 4 = .ptr n0 0
  t5 : s.tm 5 = .ptr id 0
  mu : s.mu = true
  i0 : n0 < id
  i1 : id < s.n
  mz : s.m n0 = some (.box 28 3 [.v (.int .i64 0), .nil, .nil])
  mid : s.m id = some (.box 28 3 [.v (.int .i64 d.now.people), .v (storyV d.now.story), P])
  rd : s.m rid = some (rdB bs p)
  out : ∀ j, j < n0 → j ≠ rid → s.m j = m0 j
  ok : deskOk d = true ∨ (d = noDeskV ∧ P = .nil)
  past : PastT s.m (id + 1) s.n P d.past
def LDk (m0 : Mem) (n0 rid : Nat) (bs : List UInt8) (k : Int) (p : Nat) (e : Nat) (s : S) : Prop := ∃ (c id p' : Nat) (d : Desk) (P : T), DkEnv m0 n0 rid bs k s id d P p' ∧ s.tm 7 = .v (.int .i64 c) ∧ c ≤ 4 ∧ d.past.length + c ≤ 4 ∧ p ≤ p' ∧ p' + 101 * c ≤ p + 700 ∧ (e = 1 → c = 0)
def LD6 (m0 : Mem) (n0 rid : Nat) (bs : List UInt8) (k : Int) (p c : Nat) (s : S) : Prop := ∃ (id id8 p' : Nat) (d : Desk) (P y0 y1 y2 : T) (b : Bool), DkEnv m0 n0 rid bs k s id d P p' ∧ s.tm 7 = .v (.int .i64 c) ∧ s.tm 8 = .ptr id8 0 ∧ s.tm 9 = .v (.bool b) ∧ id < id8 ∧ id8 < s.n ∧
  s.m id8 = some (.box 28 3 [y0, y1, y2]) ∧ y0.cell = true ∧ y1.cell = true ∧ y2.cell = true ∧ d.past.length + c ≤ 4 ∧ p ≤ p' ∧ p' + 101 * (c - 1) ≤ p + 700 ∧
  (b = true → ∃ y : Desk, deskOk y = true ∧ y0 = .v (.int .i64 y.now.people) ∧ y1 = .v (storyV y.now.story) ∧ PastT s.m (id + 1) s.n y2 y.past ∧ y.past.length ≤ d.past.length + 1)
theorem noDesk_deskNew {q : Place} : deskOk (deskNew q) = true ∨ (deskNew q = noDeskV ∧ T.nil = .nil) := by
  unfold deskNew; split
  · rename_i h; exact .inl (desk_new h)
  · exact .inr ⟨rfl, rfl⟩
theorem deskNew_past (q : Place) : (deskNew q).past = [] := by unfold deskNew; split <;> rfl
theorem desk_bor {mm : Mem} {x0 : Int} {st : List Claim} {P : T} {l : List Place} (hb : bor true mm 3 P = some (.sl (l.map Place.v))) : bor true mm 4 (.agg [.v (.int .i64 x0), .v (storyV st), P]) = some (Desk.v ⟨⟨x0, st⟩, l⟩) := by simp [hb]
theorem plT_bor_nil (k : Bool) (m : Mem) (d : Nat) (l : List Place) : mapO (bor k m d) (plT l ++ [.v (.int .i64 0), .nil]) = some ((l ++ [(⟨0, []⟩ : Place)]).flatMap fun p => p.v.cells) := by
  induction l with
  | nil => cases d <;> rfl
  | cons p l ih => simp [plT, mapO, ih, V.cells]
theorem row_plus {mm : Mem} {id : Nat} {l : List Place} (h : mm id = some (.box 25 2 (plT l ++ [.v (.int .i64 0), .nil]))) : bor true mm 3 (.sv id 0 (l.length + 1)) = some (.sl ((l ++ [(⟨0, []⟩ : Place)]).map Place.v)) := by
  have c1 : 0 + (l.length + 1) * 2 ≤ (plT l ++ [T.v (.int .i64 0), .nil]).length := by simp; omega
  have c2 : ((plT l ++ [T.v (.int .i64 0), .nil]).drop 0).take ((l.length + 1) * 2) = plT l ++ [.v (.int .i64 0), .nil] := by rw [List.drop_zero, List.take_of_length_le (by simp; omega)]
  show (match mm id with | some (.box _ z cs) => tst (0 + (l.length + 1) * z ≤ cs.length) (obind (mapO (TL.bor true mm 2) ((cs.drop 0).take ((l.length + 1) * z))) fun xs => tst (∀ x ∈ xs, x.cell = true) (some (V.sl (chunk z (l.length + 1) xs)))) | _ => none) = _
  rw [h]
  show tst (0 + (l.length + 1) * 2 ≤ (plT l ++ [T.v (.int .i64 0), .nil]).length) (obind (mapO (TL.bor true mm 2) (((plT l ++ [T.v (.int .i64 0), .nil]).drop 0).take ((l.length + 1) * 2))) fun xs => tst (∀ x ∈ xs, x.cell = true) (some (V.sl (chunk 2 (l.length + 1) xs)))) = _
  have e := plV_chunk (l ++ [(⟨0, []⟩ : Place)])
  rw [List.length_append, List.length_singleton] at e
  rw [tst_pos c1, c2, plT_bor_nil, obind_some, tst_pos (plV_cell _), e]
theorem desk_z (bs : List UInt8) (p : Nat) (hp : p < 500000000) (k : Int) (hk0 : 0 ≤ k) (hk : k < 100000) (m : Mem) (n rid : Nat) (hr : rid < n) (hm : m rid = some (rdB bs p)) :
    FnS Tryz.prog 18 m n [.ptr rid 0, .v (.int .i64 k)] (Draws SomeDesk 1000 m n rid bs p) := by
  refine Draws_of hr ⟨_, Tryz.func18, rfl, rfl⟩ fun hfr => ?_
  refine FnS_of (rs := [.cell 4 28]) true Tryz.func18 rfl rfl rfl rfl (Nat.le_of_ble_eq_true rfl) ?_
  have f1 := far hr
  simp -dsimp
  refine callS_ (place_z bs p (by omega) 0 (by omega) (by omega) _ _ rid (by omega) (by simp [hm, f1])) ?_
  rintro t m1 n1 ⟨hn1, ⟨x, ⟨q, hq1, hq2, hq3, rfl⟩, rfl⟩, p1, hp1, hp2, rfl⟩
  have small : q.small := ⟨by omega, fun c hc => by have := hq2 c hc; unfold Claim.small; omega⟩
  have g1 := far (show rid < n1 by omega)
  have g2 := far (show n < n1 by omega)
  have g3 : ¬ n = rid := by omega
  have hnok := noDesk_deskNew (q := q)
  have hnp := deskNew_past q
  simp -dsimp [g1, g2, g3]
  refine callS_ (deskNewS_up q small hq3 _ _) ?_
  rintro t m2 n2 ⟨hn2, hout2, rfl⟩
  have k0 := hout2 rid (by omega)
  have k1 := hout2 n (by omega)
  have hox : ∀ j, j < n → j ≠ rid → m2 j = m j := fun j j1 j2 => by rw [hout2 j (by omega)]; simp [far j1, j2]
  simp -dsimp [g3, Ne.symm g3, f1] at k0 k1
  generalize deskNew q = D at *
  generalize placeOk q = okq at *
  clear hout2
  obtain ⟨⟨x1, x2⟩, x3⟩ := D
  simp only at hnp
  have h1 := far (show rid < n2 by omega)
  have h2 := far (show n < n2 by omega)
  simp -dsimp [g1, g2, g3, nes]
  refine callS_ (pick_at bs p1 (by omega) _ _ _ rid (by simp [h1, k0])) ?_
  rintro t m3 n3 ⟨hn3, ⟨r, rfl, hr0, hr1⟩, rfl⟩
  have hr1 := hr1 (by decide)
  obtain ⟨r, rfl⟩ := Int.eq_ofNat_of_zero_le hr0
  have d0 : ¬ rid = n2 := by omega
  have d1 : ¬ n2 = rid := by omega
  have d2 : ¬ n2 = n := by omega
  have d3 : ¬ n = n2 := by omega
  simp -dsimp
  refine twp_loopC (LDk m n rid bs k p 0) (fun s => natOf (s.tm 7)) (LDk m n rid bs k p 1) ?_ ?_ ?_
  · refine ⟨r, n2, p1 + 1, ⟨⟨x1, x2⟩, x3⟩, .nil, ⟨by simp -dsimp, by simp -dsimp, by simp -dsimp, by simp -dsimp, by simp -dsimp, by omega, (by simp -dsimp <;> omega), by simp -dsimp [k1, g3, d0, d1, d2, d3, Ne.symm g3], by simp -dsimp [d0, d1, d2, d3], by simp -dsimp, fun j j1 j2 => ?_, hnok, .inl ⟨rfl, hnp⟩⟩, by simp -dsimp, by omega, by simp [hnp]; omega, by omega, by omega, by simp⟩
    simp -dsimp [far (show j < n2 by omega), j2, hox j j1 j2]
  · rintro s ⟨c, id, p', d, P, e, t7, hc4, hpl, hp0, hpc, hend⟩
    obtain ⟨t0, t1, t4, t5, hmu, i0, i1, mz, mid, rd, out, hok, past⟩ := e
    by_cases hc : 0 < c
    case neg =>
      have hc0 : c = 0 := by omega
      simp -dsimp [t7, hc, hc0]
      exact ⟨c, id, p', d, P, ⟨by simp -dsimp [t0], by simp -dsimp [t1], by simp -dsimp [t4], by simp -dsimp [t5], by simp -dsimp [hmu], i0, by simp -dsimp [i1], by simp -dsimp [mz], by simp -dsimp [mid], by simp -dsimp [rd], fun j j1 j2 => by simp -dsimp [out j j1 j2], hok, past⟩, by simp -dsimp [t7], hc4, hpl, hp0, hpc, fun _ => hc0⟩
    have a0 : ¬ rid = id := by omega
    have a1 : ¬ id = rid := by omega
    have a2 : ¬ n = id := by omega
    have a3 : ¬ id = n := by omega
    have a4 : ¬ n = rid := by omega
    have a5 : ¬ rid = n := by omega
    have h1 := far i1
    have h2 := far (show rid < s.n by omega)
    have h3 := far (show n < s.n by omega)
    have wc : IntKind.wrap .i64 ((c : Int) - 1) = ((c - 1 : Nat) : Int) := by rw [w64 (by omega) (by omega)]; omega
    have hmu1 : c - 1 < c := by omega
    have hms : natOf (s.tm 7) = c := by rw [t7]; simp
    have hshort : d.now.story.length ≤ 1000 := by
      rcases hok with h | ⟨rfl, _⟩
      · have := (place_fine (deskOk_iff.1 h).2.1).2.2.2; omega
      · simp [noDeskV]
    simp -dsimp [t7, hc]
    refine twp_cutQ (LD6 m n rid bs k p c) ?_ ?_
    · refine twp_drawT (.run [0, 1, 2, 3] (.alt (.run [4] (.alt (.run [5, 6, 7, 8, 9, 10, 11] .done) (.run [9, 5, 6, 7, 8, 10, 11] .done))) (.run [9, 4, 5, 6, 7, 8, 10, 11] .done))) [id] (List.replicate 12 [0]) (List.replicate 12 [0]) (by kernel_rfl) (by kernel_rfl) (by kernel_rfl) (by kernel_rfl) ?_
      simp -dsimp [t0, t5, t7, mid, rd, h1, h2, h3, a0, a1, a2, a3, a4, a5, nes]
      refine ordT_both ?_ ?_
      · simp -dsimp [t0, t5, t7, mid, rd, h1, h2, h3, a0, a1, a2, a3, a4, a5, nes]
        refine callS_ (deed_zA bs p' (by omega) d.now hshort _ _ rid (by omega) (by simp [rd, h1, h2, h3])) ?_
        rintro t m3 n3 ⟨hn3, ⟨x, ⟨a, ha, rfl⟩, rfl⟩, p3, hp3, hp4, rfl⟩
        obtain ⟨w1, w2, w3⟩ := a
        have b1 := far (show id < n3 by omega)
        have b2 := far (show rid < n3 by omega)
        have b3 := far (show n < n3 by omega)
        have b4 := far (show s.n < n3 + 1 by omega)
        simp -dsimp [t0, t5, t7, mid, rd, h1, h2, h3, a0, a1, a2, a3, a4, a5, nes, b1, b2, b3, b4]
        refine ordT_both ?_ ?_
        · simp -dsimp [t0, t5, t7, mid, rd, h1, h2, h3, a0, a1, a2, a3, a4, a5, nes, b1, b2, b3, b4]
          refine callS_ (deskDoS_any d ⟨w1, w2, w3⟩ P hok (by omega) (by simp only at ha ⊢; omega) _ _ (past.keep (by omega) (by omega) (fun j j1 j2 => by simp [show ¬ j = rid by omega, far (show j < s.n by omega), far (show j < n3 by omega)]))) ?_
          rintro t m4 n4 ⟨hn4, hout4, y0, y1, y2, b, rfl, c0, c1, c2, hy⟩
          have kid := hout4 id (by omega)
          have krid := hout4 rid (by omega)
          have kn := hout4 n (by omega)
          have kout : ∀ j, j < n → j ≠ rid → m4 j = s.m j := fun j j1 j2 => by rw [hout4 j (by omega)]; simp [j2, far (show j < s.n by omega), far (show j < n3 by omega)]
          have kpast : ∀ j, id + 1 ≤ j → j < s.n → m4 j = s.m j := fun j j1 j2 => by rw [hout4 j (by omega)]; simp [show ¬ j = rid by omega, far (show j < s.n by omega), far (show j < n3 by omega)]
          have b5 := far (show id < n4 by omega)
          have b6 := far (show rid < n4 by omega)
          have b7 := far (show n < n4 by omega)
          have b8 := far (show n3 < n4 + 1 by omega)
          have b9 := far (show s.n < n4 + 1 by omega)
          simp -dsimp [t0, t5, t7, mid, rd, h1, h2, h3, a0, a1, a2, a3, a4, a5, nes, b1, b2, b3, b4] at kid krid kn
          simp -dsimp [t0, t5, t7, mid, rd, h1, h2, h3, a0, a1, a2, a3, a4, a5, nes, b1, b2, b3, b4, b5, b6, b7, b8, b9, kid, krid, kn, c0, c1, c2]
          refine st_out fun s' ht hm' hn' hu' => ?_
          have q0 := ht 0
          have q1 := ht 1
          have q4 := ht 4
          have q5 := ht 5
          have q7 := ht 7
          have q8 := ht 8
          have q9 := ht 9
          simp -dsimp [t0, t1, t4, t5, t7] at q0 q1 q4 q5 q7 q8 q9 hm' hn' hu'
          clear ht
          refine ⟨id, n4, p3, d, P, y0, y1, y2, b, ⟨q0, q1, q4, q5, by rw [hu', hmu], i0, by omega, by rw [hm']; simp [kn, mz, b7, a2, a4, h3, b3], by rw [hm']; simp [kid, mid, b5, a1, h1, b1], by rw [hm']; simp [krid, b6, a0, h2, b2], fun j j1 j2 => ?_, hok, ?_⟩, q7, q8, q9, by omega, by omega, by rw [hm']; simp, c0, c1, c2, hpl, by omega, by omega, fun hb => ?_⟩
          · rw [hm']; simp [far (show j < n4 by omega), far (show j < s.n by omega), far (show j < n3 by omega), kout j j1 j2, out j j1 j2]
          · exact past.keep (Nat.le_refl _) (by omega) (fun j j1 j2 => by rw [hm']; simp [far (show j < n4 by omega), far (show j < s.n by omega), far (show j < n3 by omega), kpast j j1 j2])
          · obtain ⟨y, v1, v2, v3, v4, v5⟩ := hy hb
            exact ⟨y, v1, v2, v3, v4.keep (by omega) (by omega) (fun j j1 j2 => by rw [hm']; simp [show ¬ j = n4 by omega]), v5⟩
        · simp -dsimp [t0, t5, t7, mid, rd, h1, h2, h3, a0, a1, a2, a3, a4, a5, nes, b1, b2, b3, b4]
          refine callS_ (deskDoS_any d ⟨w1, w2, w3⟩ P hok (by omega) (by simp only at ha ⊢; omega) _ _ (past.keep (by omega) (by omega) (fun j j1 j2 => by simp [show ¬ j = rid by omega, far (show j < s.n by omega), far (show j < n3 by omega)]))) ?_
          rintro t m4 n4 ⟨hn4, hout4, y0, y1, y2, b, rfl, c0, c1, c2, hy⟩
          have kid := hout4 id (by omega)
          have krid := hout4 rid (by omega)
          have kn := hout4 n (by omega)
          have kout : ∀ j, j < n → j ≠ rid → m4 j = s.m j := fun j j1 j2 => by rw [hout4 j (by omega)]; simp [j2, far (show j < s.n by omega), far (show j < n3 by omega)]
          have kpast : ∀ j, id + 1 ≤ j → j < s.n → m4 j = s.m j := fun j j1 j2 => by rw [hout4 j (by omega)]; simp [show ¬ j = rid by omega, far (show j < s.n by omega), far (show j < n3 by omega)]
          have kn3 := hout4 n3 (by omega)
          simp -dsimp [nes] at kn3
          have b5 := far (show id < n4 by omega)
          have b6 := far (show rid < n4 by omega)
          have b7 := far (show n < n4 by omega)
          have b8 := far (show n3 < n4 + 1 by omega)
          have b9 := far (show s.n < n4 + 1 by omega)
          simp -dsimp [t0, t5, t7, mid, rd, h1, h2, h3, a0, a1, a2, a3, a4, a5, nes, b1, b2, b3, b4] at kid krid kn
          simp -dsimp [t0, t5, t7, mid, rd, h1, h2, h3, a0, a1, a2, a3, a4, a5, nes, b1, b2, b3, b4, b5, b6, b7, b8, b9, kid, krid, kn, kn3, c0, c1, c2]
          refine st_out fun s' ht hm' hn' hu' => ?_
          have q0 := ht 0
          have q1 := ht 1
          have q4 := ht 4
          have q5 := ht 5
          have q7 := ht 7
          have q8 := ht 8
          have q9 := ht 9
          simp -dsimp [t0, t1, t4, t5, t7] at q0 q1 q4 q5 q7 q8 q9 hm' hn' hu'
          clear ht
          refine ⟨id, n3, p3, d, P, y0, y1, y2, b, ⟨q0, q1, q4, q5, by rw [hu', hmu], i0, by omega, by rw [hm']; simp [kn, mz, b7, a2, a4, h3, b3], by rw [hm']; simp [kid, mid, b5, a1, h1, b1], by rw [hm']; simp [krid, b6, a0, h2, b2], fun j j1 j2 => ?_, hok, ?_⟩, q7, q8, q9, by omega, by omega, by rw [hm']; simp, c0, c1, c2, hpl, by omega, by omega, fun hb => ?_⟩
          · rw [hm']; simp [far (show j < n4 by omega), far (show j < s.n by omega), far (show j < n3 by omega), kout j j1 j2, out j j1 j2]
          · exact past.keep (Nat.le_refl _) (by omega) (fun j j1 j2 => by rw [hm']; simp [far (show j < n4 by omega), far (show j < s.n by omega), far (show j < n3 by omega), kpast j j1 j2])
          · obtain ⟨y, v1, v2, v3, v4, v5⟩ := hy hb
            exact ⟨y, v1, v2, v3, v4.keep (by omega) (by omega) (fun j j1 j2 => by rw [hm']; simp [show ¬ j = n3 by omega]), v5⟩
      · simp -dsimp [t0, t5, t7, mid, rd, h1, h2, h3, a0, a1, a2, a3, a4, a5, nes]
        refine callS_ (deed_zA bs p' (by omega) d.now hshort _ _ rid (by omega) (by simp [rd, h1, h2, h3])) ?_
        rintro t m3 n3 ⟨hn3, ⟨x, ⟨a, ha, rfl⟩, rfl⟩, p3, hp3, hp4, rfl⟩
        obtain ⟨w1, w2, w3⟩ := a
        have b1 := far (show id < n3 by omega)
        have b2 := far (show rid < n3 by omega)
        have b3 := far (show n < n3 by omega)
        have b4 := far (show s.n < n3 + 1 by omega)
        simp -dsimp [t0, t5, t7, mid, rd, h1, h2, h3, a0, a1, a2, a3, a4, a5, nes, b1, b2, b3, b4]
        refine callS_ (deskDoS_any d ⟨w1, w2, w3⟩ P hok (by omega) (by simp only at ha ⊢; omega) _ _ (past.keep (by omega) (by omega) (fun j j1 j2 => by simp [show ¬ j = rid by omega, far (show j < s.n by omega), far (show j < n3 by omega)]))) ?_
        rintro t m4 n4 ⟨hn4, hout4, y0, y1, y2, b, rfl, c0, c1, c2, hy⟩
        have kid := hout4 id (by omega)
        have krid := hout4 rid (by omega)
        have kn := hout4 n (by omega)
        have kout : ∀ j, j < n → j ≠ rid → m4 j = s.m j := fun j j1 j2 => by rw [hout4 j (by omega)]; simp [j2, far (show j < s.n by omega), far (show j < n3 by omega)]
        have kpast : ∀ j, id + 1 ≤ j → j < s.n → m4 j = s.m j := fun j j1 j2 => by rw [hout4 j (by omega)]; simp [show ¬ j = rid by omega, far (show j < s.n by omega), far (show j < n3 by omega)]
        have ksn := hout4 s.n (by omega)
        simp -dsimp [nes, h2, b4, a0, Ne.symm] at ksn
        have b5 := far (show id < n4 by omega)
        have b6 := far (show rid < n4 by omega)
        have b7 := far (show n < n4 by omega)
        have b8 := far (show n3 < n4 + 1 by omega)
        have b9 := far (show s.n < n4 + 1 by omega)
        simp -dsimp [t0, t5, t7, mid, rd, h1, h2, h3, a0, a1, a2, a3, a4, a5, nes, b1, b2, b3, b4] at kid krid kn
        simp -dsimp [t0, t5, t7, mid, rd, h1, h2, h3, a0, a1, a2, a3, a4, a5, nes, b1, b2, b3, b4, b5, b6, b7, b8, b9, kid, krid, kn, ksn, c0, c1, c2]
        refine st_out fun s' ht hm' hn' hu' => ?_
        have q0 := ht 0
        have q1 := ht 1
        have q4 := ht 4
        have q5 := ht 5
        have q7 := ht 7
        have q8 := ht 8
        have q9 := ht 9
        simp -dsimp [t0, t1, t4, t5, t7] at q0 q1 q4 q5 q7 q8 q9 hm' hn' hu'
        clear ht
        refine ⟨id, s.n, p3, d, P, y0, y1, y2, b, ⟨q0, q1, q4, q5, by rw [hu', hmu], i0, by omega, by rw [hm']; simp [kn, mz, b7, a2, a4, h3, b3], by rw [hm']; simp [kid, mid, b5, a1, h1, b1], by rw [hm']; simp [krid, b6, a0, h2, b2], fun j j1 j2 => ?_, hok, ?_⟩, q7, q8, q9, by omega, by omega, by rw [hm']; simp, c0, c1, c2, hpl, by omega, by omega, fun hb => ?_⟩
        · rw [hm']; simp [far (show j < n4 by omega), far (show j < s.n by omega), far (show j < n3 by omega), kout j j1 j2, out j j1 j2]
        · exact past.keep (Nat.le_refl _) (by omega) (fun j j1 j2 => by rw [hm']; simp [far (show j < n4 by omega), far (show j < s.n by omega), far (show j < n3 by omega), kpast j j1 j2])
        · obtain ⟨y, v1, v2, v3, v4, v5⟩ := hy hb
          exact ⟨y, v1, v2, v3, v4.keep (by omega) (by omega) (fun j j1 j2 => by rw [hm']; simp [show ¬ j = s.n by omega]), v5⟩
    · rintro s2 ⟨id, id8, p', d, P, y0, y1, y2, b, e, t7, t8, t9, i8, i9, m8, c0, c1, c2, hpl, hp0, hpc, hy⟩
      obtain ⟨t0, t1, t4, t5, hmu, i0, i1, mz, mid, rd, out, hok, past⟩ := e
      have wc : IntKind.wrap .i64 ((c : Int) - 1) = ((c - 1 : Nat) : Int) := by rw [w64 (by omega) (by omega)]; omega
      have hmu1 : c - 1 < c := by omega
      have h1 := far i1
      have h8 := far i9
      have a1 : ¬ id = id8 := by omega
      have a2 : ¬ id8 = id := by omega
      have a3 : ¬ n = id := by omega
      have a4 : ¬ rid = id := by omega
      cases b with
      | false =>
        simp -dsimp [t9, t7, wc, hms, hmu1]
        exact ⟨c - 1, id, p', d, P, ⟨by simp -dsimp [t0], by simp -dsimp [t1], by simp -dsimp [t4], by simp -dsimp [t5], by simp -dsimp [hmu], i0, by simp -dsimp [i1], by simp -dsimp [mz], by simp -dsimp [mid], by simp -dsimp [rd], fun j j1 j2 => by simp -dsimp [out j j1 j2], hok, past⟩, by simp -dsimp, by omega, by omega, hp0, by omega, by simp⟩
      | true =>
        obtain ⟨y, v1, rfl, rfl, v4, v5⟩ := hy rfl
        simp -dsimp [t5, t8, t9, t7, mid, m8, h1, h8, a1, a2, c2, wc, hms, hmu1]
        exact ⟨c - 1, id, p', y, y2, ⟨by simp -dsimp [t0], by simp -dsimp [t1], by simp -dsimp [t4], by simp -dsimp [t5], by simp -dsimp [hmu], i0, (by simp -dsimp <;> omega), by simp -dsimp [mz, a3], by simp -dsimp, by simp -dsimp [rd, a4], fun j j1 j2 => by simp -dsimp [out j j1 j2, show ¬ j = id by omega], .inl v1, v4.keep (Nat.le_refl _) (by simp -dsimp <;> omega) (fun j j1 j2 => by simp -dsimp [show ¬ j = id by omega])⟩, by simp -dsimp, by omega, by omega, hp0, by omega, by simp⟩
  · rintro s ⟨c, id, p', d, P, e, t7, hc4, hpl, hp0, hpc, hend⟩
    obtain ⟨t0, t1, t4, t5, hmu, i0, i1, mz, mid, rd, out, hok, past⟩ := e
    have a0 : ¬ rid = id := by omega
    have a1 : ¬ id = rid := by omega
    have a2 : ¬ n = id := by omega
    have a3 : ¬ id = n := by omega
    have a4 : ¬ n = rid := by omega
    have a5 : ¬ rid = n := by omega
    have h1 := far i1
    have h2 := far (show rid < s.n by omega)
    have h3 := far (show n < s.n by omega)
    have hPc := past.cell
    simp -dsimp [t0, t1]
    refine callS_ (odd_at bs p' (by omega) k (by omega) _ _ rid (by simp [rd])) ?_
    rintro t m3 n3 ⟨hn3, ⟨b, rfl, _⟩, p2, hp1, hp2, rfl⟩
    have b1 := far (show id < n3 by omega)
    have b2 := far (show rid < n3 by omega)
    have b3 := far (show n < n3 by omega)
    have hsm : d.small ∧ d.fit ∧ d.now.story.length ≤ 1000 ∧ d.past.length ≤ 8 := by
      rcases hok with h | ⟨rfl, _⟩
      · have := (place_fine (deskOk_iff.1 h).2.1).2.2.2
        exact ⟨(desk_fine h).1, (desk_fine h).2.1, by omega, (desk_fine h).2.2.1⟩
      · exact ⟨⟨⟨by simp [noDeskV], by simp [noDeskV]⟩, by simp [noDeskV], by simp [noDeskV]⟩, ⟨⟨by simp [noDeskV, fit], by simp [noDeskV]⟩, by simp [noDeskV]⟩, by simp [noDeskV], by simp [noDeskV]⟩
    obtain ⟨s1, s2, s3, s4⟩ := hsm
    cases b with
    | false =>
      simp -dsimp [t4, t5, mid, mz, h1, h2, h3, a0, a1, a2, a3, a4, a5, b1, b2, b3, hPc]
      refine ⟨by omega, ⟨_, desk_bor (past.bor (fun j j1 j2 => by simp [show n ≤ j by omega, show ¬ j = n by omega, show ¬ j = rid by omega]) 2), d, s1, s2, s3, rfl⟩, fun j j1 j2 => ?_, p2, by omega, by omega, ?_⟩
      · simp [show ¬ j = n by omega, j2, out j j1 j2]
      · simp [show ¬ rid = n by omega]
    | true =>
      simp -dsimp [t0, t4, t5, mid, mz, h1, h2, h3, a0, a1, a2, a3, a4, a5, b1, b2, b3, hPc]
      refine callS_ (pick_at bs p2 (by omega) _ _ _ rid (by simp)) ?_
      rintro t m4 n4 ⟨hn4, ⟨r, rfl, hr0, hr1⟩, rfl⟩
      have g1 := far (show id < n4 by omega)
      have g2 := far (show rid < n4 by omega)
      have g3 := far (show n < n4 by omega)
      by_cases r0 : r = 0
      · simp -dsimp [r0, t0, t4, t5, mid, mz, h1, h2, h3, a0, a1, a2, a3, a4, a5, b1, b2, b3, g1, g2, g3, hPc]
        refine ⟨by omega, ⟨_, desk_bor (past.bor (fun j j1 j2 => by simp [show n ≤ j by omega, show ¬ j = n by omega, show ¬ j = id by omega, show ¬ j = rid by omega]) 2), ⟨⟨0, d.now.story⟩, d.past⟩, ⟨s1.1, s1.2⟩, ⟨⟨by simp [fit], s2.1.2⟩, s2.2⟩, s3, rfl⟩, fun j j1 j2 => ?_, p2 + 1, by omega, by omega, ?_⟩
        · simp [show ¬ j = n by omega, show ¬ j = id by omega, j2, out j j1 j2]
        · simp [show ¬ rid = n by omega, show ¬ rid = id by omega]
      · by_cases r1 : r = 1
        · rcases past with ⟨rfl, hs0⟩ | ⟨pid, ex, rfl, hi0, hi1, him⟩
          · simp -dsimp [r0, r1, t0, t4, t5, mid, mz, h1, h2, h3, a0, a1, a2, a3, a4, a5, b1, b2, b3, g1, g2, g3, hPc, hmu, nes]
            refine ⟨by omega, ⟨_, desk_bor (row_plus (l := []) (by simp [show n ≤ n4 + 1 by omega, show ¬ n4 + 1 = n by omega, show ¬ n4 + 1 = id by omega, nes, plT])), ⟨d.now, [⟨0, []⟩]⟩, ⟨s1.1, by simp, by simp [Place.small]⟩, ⟨s2.1, by simp [Place.fit, fit]⟩, s3, rfl⟩, fun j j1 j2 => ?_, p2 + 1, by omega, by omega, ?_⟩
            · simp [show ¬ j = n by omega, show ¬ j = id by omega, far (show j < n4 by omega), j2, out j j1 j2]
            · simp [show ¬ rid = n by omega, show ¬ rid = id by omega, g2]
          · have c0 : ¬ pid = rid := by omega
            have c1 : ¬ pid = id := by omega
            have c2 : ¬ pid = n := by omega
            have g4 := far (show pid < n4 by omega)
            have fb : (d.past.length + 1) * 32 ≤ 140737488355328 := by omega
            simp -dsimp [r0, r1, t0, t4, t5, mid, mz, h1, h2, h3, a0, a1, a2, a3, a4, a5, b1, b2, b3, g1, g2, g3, g4, hPc, hmu, nes, him, c0, c1, c2, Ne.symm c0, Ne.symm c1, Ne.symm c2, fb]
            refine ⟨by omega, ⟨_, desk_bor (row_plus (l := d.past) (by simp [show n ≤ n4 + 1 by omega, show ¬ n4 + 1 = n by omega, show ¬ n4 + 1 = id by omega, nes])), ⟨d.now, d.past ++ [⟨0, []⟩]⟩, ⟨s1.1, by simp; omega, fun p hp => ?_⟩, ⟨s2.1, fun p hp => ?_⟩, s3, rfl⟩, fun j j1 j2 => ?_, p2 + 1, by omega, by omega, ?_⟩
            · rcases List.mem_append.1 hp with h | h
              · exact s1.2.2 p h
              · rw [List.mem_singleton.1 h]; simp [Place.small]
            · rcases List.mem_append.1 hp with h | h
              · exact s2.2 p h
              · rw [List.mem_singleton.1 h]; simp [Place.fit, fit]
            · simp [show ¬ j = n by omega, show ¬ j = id by omega, show ¬ j = pid by omega, far (show j < n4 by omega), j2, out j j1 j2]
            · simp [show ¬ rid = n by omega, show ¬ rid = id by omega, show ¬ rid = pid by omega, g2]
        · simp -dsimp [r0, r1, t0, t4, t5, mid, mz, h1, h2, h3, a0, a1, a2, a3, a4, a5, b1, b2, b3, g1, g2, g3, hPc]
          refine ⟨by omega, ⟨Desk.v ⟨⟨0, []⟩, []⟩, by simp, ⟨⟨0, []⟩, []⟩, ⟨by simp [Place.small], by simp, by simp⟩, ⟨by simp [Place.fit, fit], by simp⟩, by simp, rfl⟩, fun j j1 j2 => ?_, p2 + 1, by omega, by omega, ?_⟩
          · simp [show ¬ j = n by omega, j2, out j j1 j2]
          · simp [show ¬ rid = n by omega]
end TL

/- Copies of stories, places and desks as rows of the caller's own: the program. -/
set_option linter.unusedSimpArgs false
set_option linter.unusedVariables false
set_option maxRecDepth 100000
set_option maxHeartbeats 4000000
set_option pp.maxSteps 1500
namespace TL
open Go Go.Proofs
attribute [local simp] marksV storyV codeV Claim.v Place.v Desk.v
def IcS (l : List Claim) (m0 : Mem) (n0 : Nat) (e : Nat) (s : S) : Prop := ∃ i id : Nat, s.tm 7 = .v (.sl (l.map Claim.v)) ∧ s.tm 8 = .v (.int .i64 l.length) ∧ s.tm 9 = .v (.int .i64 i) ∧ s.mu = false ∧ i ≤ l.length ∧ s.tm 3 = .loc id ∧ n0 ≤ id ∧ id < s.n ∧ s.m id = some (.arr 53 ((l.take i).map Claim.v)) ∧ (∀ j, j < n0 → s.m j = m0 j) ∧ (e = 1 → i = l.length)
theorem copyStory_own (l : List Claim) (hl : l.length ≤ 1048576) (hs : ∀ c ∈ l, c.small) (m : Mem) (n : Nat) : FnS Tryz.prog 48 m n [.v (storyV l)] (fun t m' n' => n ≤ n' ∧ (∀ j, j < n → m' j = m j) ∧ ∃ id, t = .loc id ∧ n ≤ id ∧ id < n' ∧ m' id = some (.arr 53 (l.map Claim.v))) := by
  refine FnS_of (rs := [.tmp 2]) false Tryz.func48 rfl rfl rfl rfl (Nat.le_of_ble_eq_true rfl) ?_
  simp -dsimp
  refine twp_loopC (IcS l m n 0) (fun s => l.length - natOf (s.tm 9)) (IcS l m n 1) ?_ ?_ ?_
  · exact ⟨0, n, by simp -dsimp, by simp -dsimp, by simp -dsimp, by simp -dsimp, by omega, by simp -dsimp, by omega, by simp -dsimp, by simp -dsimp, fun j j1 => by simp -dsimp [far j1], by simp⟩
  · rintro s ⟨i, id, t7, t8, t9, hmu, hi, t3, hid0, hid, hm, hout, hend⟩
    by_cases hlt : i < l.length
    case neg =>
      simp -dsimp [t8, t9, hlt]
      exact ⟨i, id, by simp -dsimp [t7], by simp -dsimp [t8], by simp -dsimp [t9], by simp -dsimp [hmu], hi, by simp -dsimp [t3], hid0, by simp -dsimp [hid], by simp -dsimp [hm], fun j j1 => by simp -dsimp [hout j j1], fun _ => by omega⟩
    have hget : (l.map Claim.v)[i]? = some (l[i].v) := by simp [hlt]
    have wi : IntKind.wrap .i64 ((i : Int) + 1) = ((i + 1 : Nat) : Int) := by rw [w64 (by omega) (by omega)]; omega
    have hmu1 : l.length - (i + 1) < l.length - i := by omega
    have f1 := far hid
    have b1 : (min i l.length + 1) * 32 ≤ 140737488355328 := by omega
    have htk : (l.take (i + 1)).map Claim.v = (l.take i).map Claim.v ++ [l[i].v] := by rw [List.take_succ_eq_append_getElem hlt, List.map_append]; rfl
    simp -dsimp [t7, t8, t9, hlt, hget]
    refine twp_draw (List.range 10) [s.n] (List.replicate 10 [0]) (List.replicate 10 [0]) (by kernel_rfl) (by kernel_rfl) (by kernel_rfl) (by kernel_rfl) ?_
    simp -dsimp [List.range_succ, t3]
    refine call_ (cloneMarks_fn l[i].says (hs _ (List.getElem_mem _))) (by simp -dsimp) ?_
    simp -dsimp [List.range_succ, t3, t9, hmu, f1, hm, b1, wi, hmu1, nes]
    refine st_out fun s' ht hm' hn' hu' => ?_
    have a3 := ht 3
    have a7 := ht 7
    have a8 := ht 8
    have a9 := ht 9
    simp -dsimp [t7, t8] at a3 a7 a8 a9 hm' hn' hu'
    clear ht
    refine ⟨i + 1, s.n + 1 + 1 + 1, a7, a8, a9, by rw [hu', hmu], by omega, a3, by omega, by omega, ?_, fun j j1 => ?_, by simp⟩
    · rw [htk]; simp [hm', nes]
    · simp [hm', far (show j < s.n by omega), show ¬ j = id by omega, hout j j1]
  · rintro s ⟨i, id, t7, t8, t9, hmu, hi, t3, hid0, hid, hm, hout, hend⟩
    have := hend rfl
    subst this
    rw [List.take_length] at hm
    simp -dsimp [t3]
    exact ⟨by omega, hout, hid0, hid, hm⟩
/-- A place whose claims are a row of the caller's own. -/
def OwnPlaceL (p : Place) (m : Mem) (n : Nat) (t : T) (m' : Mem) (n' : Nat) : Prop := n ≤ n' ∧ (∀ j, j < n → m' j = m j) ∧ ∃ id, t = .agg [.v (.int .i64 p.people), .loc id] ∧ n ≤ id ∧ id < n' ∧ m' id = some (.arr 53 (p.story.map Claim.v))
theorem copyPlace_own (p : Place) (hp : p.small) (m : Mem) (n : Nat) : FnS Tryz.prog 27 m n [.v p.v] (OwnPlaceL p m n) := by
  refine FnS_of (rs := [.cell 2 25]) false Tryz.func27 rfl rfl rfl rfl (Nat.le_of_ble_eq_true rfl) ?_
  simp -dsimp
  refine twp_draw (List.range 7) [n] (List.replicate 7 [0]) (List.replicate 7 [0]) (by kernel_rfl) (by kernel_rfl) (by kernel_rfl) (by kernel_rfl) ?_
  simp -dsimp [List.range_succ]
  refine callS_ (copyStory_own p.story hp.1 hp.2 _ _) ?_
  rintro t m1 n1 ⟨hn1, hout1, id, rfl, hid0, hid, him⟩
  have f1 := far hid
  have k0 := hout1 n (by omega)
  have k1 := hout1 (n + 1) (by omega)
  simp -dsimp [nes] at k0 k1
  have d0 : ¬ id = n + 1 := by omega
  have d1 : ¬ n + 1 = id := by omega
  simp -dsimp [List.range_succ, k0, k1, nes, f1]
  refine ⟨by omega, fun j j1 => ?_, id, ?_⟩
  · have := hout1 j (by omega)
    simp [far j1, show ¬ j = n + 1 by omega] at this ⊢
    exact this
  · exact ⟨rfl, by omega, by omega, by simp [d0, him]⟩
/-- A desk whose place's claims and whose past are rows of the caller's own. -/
def OwnDeskL (d : Desk) (m : Mem) (n : Nat) (t : T) (m' : Mem) (n' : Nat) : Prop := n ≤ n' ∧ (∀ j, j < n → m' j = m j) ∧ ∃ id st, t = .agg [.v (.int .i64 d.now.people), .loc id, st] ∧ n ≤ id ∧ id < n' ∧ m' id = some (.arr 53 (d.now.story.map Claim.v)) ∧ IsRow m' n n' 25 st (d.past.map Place.v) ∧ st ≠ .loc id
def Icd (d : Desk) (m0 : Mem) (n0 id q : Nat) (e : Nat) (s : S) : Prop := ∃ (i : Nat) (st : T), s.tm 2 = .ptr (n0 + 1) 0 ∧ s.tm 3 = .ptr q 0 ∧ s.tm 11 = .v (.sl (d.past.map Place.v)) ∧ s.tm 12 = .v (.int .i64 d.past.length) ∧ s.tm 13 = .v (.int .i64 i) ∧ s.mu = false ∧ i ≤ d.past.length ∧ q < s.n ∧
  s.m (n0 + 1) = some (.box 28 3 [.v (.int .i64 0), .nil, .nil]) ∧ s.m q = some (.box 28 3 [.v (.int .i64 d.now.people), .loc id, st]) ∧ s.m id = some (.arr 53 (d.now.story.map Claim.v)) ∧ IsRow s.m (q + 1) s.n 25 st ((d.past.take i).map Place.v) ∧ (∀ j, j < n0 → s.m j = m0 j) ∧ (e = 1 → i = d.past.length)
theorem copyDesk_own (d : Desk) (hd : d.small) (m : Mem) (n : Nat) : FnS Tryz.prog 20 m n [.v d.v] (OwnDeskL d m n) := by
  have hl := hd.2.1
  refine FnS_of (rs := [.cell 2 28]) false Tryz.func20 rfl rfl rfl rfl (Nat.le_of_ble_eq_true rfl) ?_
  simp -dsimp
  refine callL_ (vs := [d.now.v]) (copyPlace_own d.now hd.1 _ _) (by simp -dsimp) ?_
  rintro t m1 n1 ⟨hn1, hout1, id, rfl, hid0, hid, him⟩
  have f1 := far hid
  have k0 := hout1 n (by omega)
  have k1 := hout1 (n + 1) (by omega)
  simp -dsimp [nes] at k0 k1
  have g0 := far (show n < n1 by omega)
  have g1 := far (show n + 1 < n1 by omega)
  simp -dsimp [k0, k1, nes, f1, g0, g1]
  refine twp_loopC (Icd d m n id n1 0) (fun s => d.past.length - natOf (s.tm 13)) (Icd d m n id n1 1) ?_ ?_ ?_
  · refine ⟨0, .nil, by simp -dsimp, by simp -dsimp, by simp -dsimp, by simp -dsimp, by simp -dsimp, by simp -dsimp, by omega, (by simp -dsimp <;> omega), by simp -dsimp [g1, k1], by simp -dsimp [f1], by simp -dsimp [f1, him], .inl ⟨rfl, by simp⟩, fun j j1 => ?_, by simp⟩
    have := hout1 j (by omega)
    simp -dsimp [far j1] at this
    simp -dsimp [far (show j < n1 by omega), this]
  · rintro s ⟨i, st, t2, t3, t11, t12, t13, hmu, hi, hq, m1', mq, mid, hst, hout, hend⟩
    by_cases hlt : i < d.past.length
    case neg =>
      simp -dsimp [t12, t13, hlt]
      exact ⟨i, st, by simp -dsimp [t2], by simp -dsimp [t3], by simp -dsimp [t11], by simp -dsimp [t12], by simp -dsimp [t13], by simp -dsimp [hmu], hi, by simp -dsimp; omega, by simp -dsimp [m1'], by simp -dsimp [mq], by simp -dsimp [mid], hst, fun j j1 => by simp -dsimp [hout j j1], fun _ => by omega⟩
    have hget : (d.past.map Place.v)[i]? = some (d.past[i].v) := by simp [hlt]
    have wi : IntKind.wrap .i64 ((i : Int) + 1) = ((i + 1 : Nat) : Int) := by rw [w64 (by omega) (by omega)]; omega
    have hmu1 : d.past.length - (i + 1) < d.past.length - i := by omega
    have p0 := far (show n1 < s.n by omega)
    have p1 := far (show n + 1 < s.n by omega)
    have p2 := far (show id < s.n by omega)
    have p3 := far (show n < s.n by omega)
    have q0 : ¬ n + 1 = n1 := by omega
    have q1 : ¬ n1 = n + 1 := by omega
    have q2 : ¬ id = n1 := by omega
    have q3 : ¬ n1 = id := by omega
    have q4 : ¬ id = n + 1 := by omega
    have q5 : ¬ n + 1 = id := by omega
    have hsm := hd.2.2 d.past[i] (List.getElem_mem _)
    have hpl := copyPlace_fn d.past[i] hsm
    have b1 : (min i d.past.length + 1) * 32 ≤ 140737488355328 := by omega
    have htk : (d.past.take (i + 1)).map Place.v = (d.past.take i).map Place.v ++ [d.past[i].v] := by rw [List.take_succ_eq_append_getElem hlt, List.map_append]; rfl
    simp -dsimp [t11, t12, t13, hlt, hget]
    refine twp_draw (List.range 8) [s.n, n1] (List.replicate 8 [0, 1]) (List.replicate 7 [0, 1] ++ [[0]]) (by kernel_rfl) (by kernel_rfl) (by kernel_rfl) (by kernel_rfl) ?_
    rcases hst with ⟨rfl, hs0⟩ | ⟨r, rfl, hi0, hi1, him'⟩
    · have hi00 : i = 0 := by
        simp at hs0; rcases hs0 with h | h
        · exact h
        · rw [h] at hlt; simp at hlt
      subst hi00
      have hmu2 : d.past.length - 1 < d.past.length := by omega
      have wz : IntKind.wrap .i64 1 = 1 := rfl
      simp -dsimp [List.range_succ, t3, mq, p0, p1, p2, nes]
      refine call_ hpl (by simp -dsimp) ?_
      simp -dsimp [List.range_succ, t3, t13, mq, p0, p1, p2, nes, hmu, wi, hmu1, hmu2, wz, q0, q1, q2, q3, q4, q5]
      refine st_out fun s' ht hm' hn' hu' => ?_
      have a2 := ht 2
      have a3 := ht 3
      have a11 := ht 11
      have a12 := ht 12
      have a13 := ht 13
      simp -dsimp [t2, t3, t11, t12] at a2 a3 a11 a12 a13 hm' hn' hu'
      clear ht
      refine ⟨1, .loc (s.n + 1 + 1 + 1), a2, a3, a11, a12, a13, by rw [hu', hmu], by omega, by omega, by simp [hm', p0, p1, p2, p3, nes, q0, m1'], by simp [hm', p0, nes], by simp [hm', p0, p1, p2, p3, nes, q2, mid], .inr ⟨s.n + 1 + 1 + 1, rfl, by omega, by omega, ?_⟩, fun j j1 => ?_, by simp⟩
      · rw [htk]; simp [hm', p0, nes]
      · simp [hm', far (show j < s.n by omega), show ¬ j = n1 by omega, hout j j1]
    · have g1' := far hi1
      have g2 : ¬ r = n1 := by omega
      have g3 : ¬ r = n + 1 := by omega
      have g4 : ¬ r = id := by omega
      simp -dsimp [List.range_succ, t3, mq, p0, p1, p2, nes]
      refine call_ hpl (by simp -dsimp) ?_
      simp -dsimp [List.range_succ, t3, t13, mq, p0, p1, p2, nes, hmu, wi, hmu1, q0, q1, q2, q3, q4, q5, g1', g2, Ne.symm g2, him', b1]
      refine st_out fun s' ht hm' hn' hu' => ?_
      have a2 := ht 2
      have a3 := ht 3
      have a11 := ht 11
      have a12 := ht 12
      have a13 := ht 13
      simp -dsimp [t2, t3, t11, t12] at a2 a3 a11 a12 a13 hm' hn' hu'
      clear ht
      refine ⟨i + 1, .loc (s.n + 1 + 1 + 1), a2, a3, a11, a12, a13, by rw [hu', hmu], by omega, by omega, by simp [hm', p0, p1, p2, p3, nes, q0, m1', Ne.symm g3], by simp [hm', p0, nes], by simp [hm', p0, p1, p2, p3, nes, q2, mid, Ne.symm g4], .inr ⟨s.n + 1 + 1 + 1, rfl, by omega, by omega, ?_⟩, fun j j1 => ?_, by simp⟩
      · rw [htk]; simp [hm', p0, nes, g1']
      · simp [hm', far (show j < s.n by omega), show ¬ j = n1 by omega, show ¬ j = r by omega, hout j j1]
  · rintro s ⟨i, st, t2, t3, t11, t12, t13, hmu, hi, hq, m1', mq, mid, hst, hout, hend⟩
    have := hend rfl
    subst this
    rw [List.take_length] at hst
    have q0 : ¬ n1 = n + 1 := by omega
    have q1 : ¬ id = n + 1 := by omega
    have hc := hst.cell
    simp -dsimp [t2, t3, m1', mq, q0, hc]
    refine ⟨by omega, fun j j1 => by simp [show ¬ j = n + 1 by omega, hout j j1], id, st, ?_⟩
    refine ⟨rfl, by omega, by omega, by simp [q1, mid], ?_, ?_⟩
    · rcases hst with ⟨rfl, hs0⟩ | ⟨r, rfl, hi0, hi1, him'⟩
      · exact .inl ⟨rfl, hs0⟩
      · exact .inr ⟨r, rfl, by omega, by omega, by simp [show ¬ r = n + 1 by omega, him']⟩
    · rcases hst with ⟨rfl, hs0⟩ | ⟨r, rfl, hi0, hi1, him'⟩
      · simp
      · simp; omega
end TL

/- Deeds at a desk: the program. -/
set_option linter.unusedSimpArgs false
set_option linter.unusedVariables false
set_option maxRecDepth 100000
set_option maxHeartbeats 4000000
set_option pp.maxSteps 1500
namespace TL
open Go Go.Proofs
attribute [local simp] marksV storyV codeV Claim.v Place.v Deed.v Desk.v
theorem nes8 (n : Nat) : (¬ n = n + 1 + 1 + 1 + 1 + 1 + 1 + 1 + 1) ∧ (¬ n + 1 + 1 + 1 + 1 + 1 + 1 + 1 + 1 = n) ∧ (¬ n = n + 1 + 1 + 1 + 1 + 1 + 1 + 1 + 1 + 1) ∧ (¬ n + 1 + 1 + 1 + 1 + 1 + 1 + 1 + 1 + 1 = n) ∧ (¬ n = n + 1 + 1 + 1 + 1 + 1 + 1 + 1 + 1 + 1 + 1) ∧ (¬ n + 1 + 1 + 1 + 1 + 1 + 1 + 1 + 1 + 1 + 1 = n) ∧ (¬ n = n + 1 + 1 + 1 + 1 + 1 + 1 + 1 + 1 + 1 + 1 + 1) ∧ (¬ n + 1 + 1 + 1 + 1 + 1 + 1 + 1 + 1 + 1 + 1 + 1 = n) ∧ (¬ n = n + 1 + 1 + 1 + 1 + 1 + 1 + 1 + 1 + 1 + 1 + 1 + 1) ∧ (¬ n + 1 + 1 + 1 + 1 + 1 + 1 + 1 + 1 + 1 + 1 + 1 + 1 = n) ∧ (¬ n = n + 1 + 1 + 1 + 1 + 1 + 1 + 1 + 1 + 1 + 1 + 1 + 1 + 1) ∧ (¬ n + 1 + 1 + 1 + 1 + 1 + 1 + 1 + 1 + 1 + 1 + 1 + 1 + 1 = n) ∧ (¬ n = n + 1 + 1 + 1 + 1 + 1 + 1 + 1 + 1 + 1 + 1 + 1 + 1 + 1 + 1) ∧ (¬ n + 1 + 1 + 1 + 1 + 1 + 1 + 1 + 1 + 1 + 1 + 1 + 1 + 1 + 1 = n) := by
  refine ⟨?_, ?_, ?_, ?_, ?_, ?_, ?_, ?_, ?_, ?_, ?_, ?_, ?_, ?_⟩ <;> omega
theorem clip_fn (l : List Place) (hl : l.length ≤ 1048576) : FnZ Tryz.prog 24 [.sl (l.map Place.v)] (.sl (l.map Place.v)) := by
  refine FnZ_of (rs := [.tmp 2]) false Tryz.func24 rfl rfl rfl rfl (Nat.le_of_ble_eq_true rfl) ?_
  simp -dsimp [evClip]
/-- What is done if a deed makes a place. -/
theorem deskDo_made {d : Desk} {a : Deed} (hk : deskOk d = true) (hb : isBack a = false) : deskDo d a = if (placeOk (made d.now a) && !decide (placeTx (made d.now a) = placeTx d.now)) = true then (⟨made d.now a, keep8 (d.past ++ [d.now])⟩, true) else (d, false) := by
  unfold deskDo; rw [if_pos hk, if_neg (by simp [hb])]; rfl
theorem deskDo_zero {d : Desk} {a : Deed} (hk : deskOk d = true) (hb : isBack a = false) (hm : made d.now a = ⟨0, []⟩) : deskDo d a = (d, false) := by
  rw [deskDo_made hk hb, hm, zero_no]; rfl
theorem do_people (d : Desk) (num : Int) (hd : d.small) (hk : deskOk d = true) (X : Place) (hXl : X.story.length ≤ 7) (hX : X = ⟨num, d.now.story⟩) :
    FnZ Tryz.prog 6 [d.v, (⟨2, num, []⟩ : Deed).v] (.tup [(if (placeOk X && !decide (placeTx X = placeTx d.now)) = true then ((⟨X, keep8 (d.past ++ [d.now])⟩, true) : Desk × Bool) else (d, false)).1.v, .bool (if (placeOk X && !decide (placeTx X = placeTx d.now)) = true then ((⟨X, keep8 (d.past ++ [d.now])⟩, true) : Desk × Bool) else (d, false)).2]) := by
  have hpo := placeOk_fn X (by omega)
  have hpt := placeText_fn X (by omega)
  have hpn := placeText_fn d.now (by have := hd.1.1; omega)
  have hcn := copyPlace_fn d.now hd.1
  have hok := deskOk_fn d (by have := hd.2.1; omega) (by have := hd.1.1; omega) (fun p hp => by have := (hd.2.2 p hp).1; omega)
  rw [hk] at hok
  obtain ⟨hpast, hnow, hp8⟩ := deskOk_iff.1 hk
  have hcopy := fun m n => copyDesk_own d hd m n
  have fullb : (d.past.length + 1) * 32 ≤ 140737488355328 := by omega
  have zplaces : allZ 2 (List.map Place.v d.past ++ [d.now.v]) := fun x hx => by
    rcases List.mem_append.1 hx with hx | hx
    · obtain ⟨p, _, rfl⟩ := List.mem_map.1 hx; exact ⟨by simp, by simp⟩
    · rw [List.mem_singleton.1 hx]; exact ⟨by simp, by simp⟩
  have hR : placeOk X = true → ∀ l, keep8 (d.past ++ [d.now]) = l → ∀ m n, FnS Tryz.prog 20 m n [.v (⟨X, l⟩ : Desk).v] (OwnDeskL ⟨X, l⟩ m n) := fun hX l hl m n => copyDesk_own ⟨X, l⟩ (desk_fine (deskOk_iff.2 ⟨fun p hp => by
    rw [← hl] at hp
    rcases List.mem_append.1 (keep8_mem hp) with h1 | h1
    · exact hpast p h1
    · rw [List.mem_singleton.1 h1]; exact hnow, hX, by rw [← hl]; exact keep8_len _ (by simp; omega)⟩)).1 m n
  have hkX := ft (placeOk X)
  have htx : placeTx X = placeTx d.now ∨ ¬ placeTx X = placeTx d.now := Classical.em _
  generalize placeTx X = tX at *
  generalize placeTx d.now = tN at *
  generalize placeOk X = okX at *
  subst hX
  refine FnZ_of (rs := [.cell 4 28, .tmp 5]) false Tryz.func6 rfl rfl rfl rfl (Nat.le_of_ble_eq_true rfl) ?_
  simp -dsimp
  refine call_ hok (by simp -dsimp) ?_
  simp -dsimp
  refine callL_ (vs := [d.v]) (hcopy _ _) (by simp -dsimp) ?_
  rintro t m1 n1 ⟨hn1, hout, id, st, rfl, hi0, hi1, him, hst, hne⟩
  have k0 := hout 0 (by omega)
  have k1 := hout 1 (by omega)
  have k2 := hout 2 (by omega)
  simp -dsimp at k0 k1 k2
  have f0 := far (show 0 < n1 by omega)
  have f1 := far (show 1 < n1 by omega)
  have f2 := far (show 2 < n1 by omega)
  have z1 : ¬ n1 = 0 := by omega
  have z2 : ¬ n1 = 1 := by omega
  have z3 : ¬ n1 = 2 := by omega
  have g1 := far hi1
  have y0 : ¬ id = 0 := by omega
  have y1 : ¬ id = 1 := by omega
  have y2 : ¬ id = 2 := by omega
  have yn : ¬ id = n1 := by omega
  have hc := hst.cell
  rcases hst with ⟨rfl, hs0⟩ | ⟨r, rfl, hr0, hr1, hrm⟩
  · have hp0 : d.past = [] := by simpa using hs0
    simp -dsimp [nes8 n1, k0, k1, k2, f0, f1, f2, z1, z2, z3, nes, g1, y0, y1, y2, yn, Ne.symm y0, Ne.symm y1, Ne.symm y2, him, hc]
    refine twp_draw [0, 1, 2, 3, 4, 5, 6, 7, 8, 10, 11, 9, 12, 13, 14] [0, n1] (List.replicate 15 [0, 1]) (List.replicate 15 [0, 1]) (by kernel_rfl) (by kernel_rfl) (by kernel_rfl) (by kernel_rfl) ?_
    simp -dsimp [nes8 n1, k0, k1, k2, f0, f1, f2, z1, z2, z3, nes, g1, y0, y1, y2, yn, Ne.symm y0, Ne.symm y1, Ne.symm y2, him, hc, hp0]
    refine call_ hpo (by simp -dsimp [nes8 n1, k0, k1, k2, f0, f1, f2, z1, z2, z3, nes, g1, y0, y1, y2, yn, Ne.symm y0, Ne.symm y1, Ne.symm y2, him, hc, hp0]) ?_
    rcases hkX with rfl | rfl
    · simp -dsimp [nes8 n1, k0, k1, k2, f0, f1, f2, z1, z2, z3, nes, g1, y0, y1, y2, yn, Ne.symm y0, Ne.symm y1, Ne.symm y2, him, hc, hp0]
      refine callL_ (vs := [d.v]) (hcopy _ _) (by simp -dsimp [hc, hp0]) ?_
      rintro t m2 n2 ⟨hn2, hout2, id2, st2, rfl, hj0, hj1, hjm, hst2, hne2⟩
      have q2 := hout2 2 (by omega)
      simp -dsimp [nes8 n1, k0, k1, k2, f0, f1, f2, z1, z2, z3, nes, g1, y0, y1, y2, yn, Ne.symm y0, Ne.symm y1, Ne.symm y2, him] at q2
      have hc2 := hst2.cell
      have u2 : ¬ id2 = 2 := by omega
      rcases hst2 with ⟨rfl, hs2⟩ | ⟨r2, rfl, hr0, hr1, hrm2⟩
      · simp -dsimp [q2, hjm, u2, Ne.symm u2, hs2]
      · have u4 : ¬ r2 = 2 := by omega
        simp -dsimp [q2, hjm, hrm2, u2, u4, Ne.symm u2, Ne.symm u4]
    simp -dsimp [nes8 n1, k0, k1, k2, f0, f1, f2, z1, z2, z3, nes, g1, y0, y1, y2, yn, Ne.symm y0, Ne.symm y1, Ne.symm y2, him, hc, hp0]
    refine call_ hpt (by simp -dsimp [nes8 n1, k0, k1, k2, f0, f1, f2, z1, z2, z3, nes, g1, y0, y1, y2, yn, Ne.symm y0, Ne.symm y1, Ne.symm y2, him, hc, hp0]) ?_
    simp -dsimp [nes8 n1, k0, k1, k2, f0, f1, f2, z1, z2, z3, nes, g1, y0, y1, y2, yn, Ne.symm y0, Ne.symm y1, Ne.symm y2, him, hc, hp0]
    refine call_ hpn (by simp -dsimp) ?_
    rcases htx with rfl | htx
    · simp -dsimp [nes8 n1, k0, k1, k2, f0, f1, f2, z1, z2, z3, nes, g1, y0, y1, y2, yn, Ne.symm y0, Ne.symm y1, Ne.symm y2, him, hc, hp0]
      refine callL_ (vs := [d.v]) (hcopy _ _) (by simp -dsimp [hc, hp0]) ?_
      rintro t m2 n2 ⟨hn2, hout2, id2, st2, rfl, hj0, hj1, hjm, hst2, hne2⟩
      have q2 := hout2 2 (by omega)
      simp -dsimp [nes8 n1, k0, k1, k2, f0, f1, f2, z1, z2, z3, nes, g1, y0, y1, y2, yn, Ne.symm y0, Ne.symm y1, Ne.symm y2, him] at q2
      have hc2 := hst2.cell
      have u2 : ¬ id2 = 2 := by omega
      rcases hst2 with ⟨rfl, hs2⟩ | ⟨r2, rfl, hr0, hr1, hrm2⟩
      · simp -dsimp [q2, hjm, u2, Ne.symm u2, hs2]
      · have u4 : ¬ r2 = 2 := by omega
        simp -dsimp [q2, hjm, hrm2, u2, u4, Ne.symm u2, Ne.symm u4]
    have hRs := hR rfl
    simp -dsimp [nes8 n1, k0, k1, k2, f0, f1, f2, z1, z2, z3, nes, g1, y0, y1, y2, yn, Ne.symm y0, Ne.symm y1, Ne.symm y2, him, hc, hp0, htx]
    refine twp_draw (List.range 9) [0, n1] (List.replicate 9 [0, 1]) (List.replicate 8 [0, 1] ++ [[0]]) (by kernel_rfl) (by kernel_rfl) (by kernel_rfl) (by kernel_rfl) ?_
    simp -dsimp [List.range_succ, nes8 n1, k0, k1, k2, f0, f1, f2, z1, z2, z3, nes, g1, y0, y1, y2, yn, Ne.symm y0, Ne.symm y1, Ne.symm y2, him, hc, hp0, htx]
    refine call_ hcn (by simp -dsimp) ?_
    have hR2 := hRs [d.now] (by rw [hp0]; rfl)
    simp -dsimp [List.range_succ, nes8 n1, k0, k1, k2, f0, f1, f2, z1, z2, z3, nes, g1, y0, y1, y2, yn, Ne.symm y0, Ne.symm y1, Ne.symm y2, him, hc, hp0, htx]
    refine callL_ (vs := [(⟨⟨num, d.now.story⟩, [d.now]⟩ : Desk).v]) (hR2 _ _) (by simp -dsimp [nes8 n1, k0, k1, k2, f0, f1, f2, z1, z2, z3, nes, g1, y0, y1, y2, yn, Ne.symm y0, Ne.symm y1, Ne.symm y2, him, hc, hp0]) ?_
    rintro t m2 n2 ⟨hn2, hout2, id2, st2, rfl, hj0, hj1, hjm, hst2, hne2⟩
    have q2 := hout2 2 (by omega)
    simp -dsimp [nes8 n1, k0, k1, k2, f0, f1, f2, z1, z2, z3, nes, g1, y0, y1, y2, yn, Ne.symm y0, Ne.symm y1, Ne.symm y2, him] at q2
    have hc2 := hst2.cell
    have u2 : ¬ id2 = 2 := by omega
    rcases hst2 with ⟨rfl, hs2⟩ | ⟨r2, rfl, hr0, hr1, hrm2⟩
    · simp -dsimp [q2, hjm, u2, Ne.symm u2, hs2, htx, hp0, keep8]
    · have u4 : ¬ r2 = 2 := by omega
      simp -dsimp [q2, hjm, hrm2, u2, u4, Ne.symm u2, Ne.symm u4, htx, hp0, keep8]
  · have g2 := far hr1
    have x0 : ¬ r = 0 := by omega
    have x1 : ¬ r = 1 := by omega
    have x2 : ¬ r = 2 := by omega
    have xi : ¬ r = id := fun h => hne (by rw [h])
    simp -dsimp [nes8 n1, k0, k1, k2, f0, f1, f2, z1, z2, z3, nes, g1, y0, y1, y2, yn, Ne.symm y0, Ne.symm y1, Ne.symm y2, him, g2, x0, x1, x2, xi, Ne.symm x0, Ne.symm x1, Ne.symm x2, Ne.symm xi, hrm, hc]
    refine twp_draw [0, 1, 2, 3, 4, 5, 6, 7, 8, 10, 11, 9, 12, 13, 14] [0, n1] (List.replicate 15 [0, 1]) (List.replicate 15 [0, 1]) (by kernel_rfl) (by kernel_rfl) (by kernel_rfl) (by kernel_rfl) ?_
    simp -dsimp [nes8 n1, k0, k1, k2, f0, f1, f2, z1, z2, z3, nes, g1, y0, y1, y2, yn, Ne.symm y0, Ne.symm y1, Ne.symm y2, him, g2, x0, x1, x2, xi, Ne.symm x0, Ne.symm x1, Ne.symm x2, Ne.symm xi, hrm, hc]
    refine call_ hpo (by simp -dsimp [nes8 n1, k0, k1, k2, f0, f1, f2, z1, z2, z3, nes, g1, y0, y1, y2, yn, Ne.symm y0, Ne.symm y1, Ne.symm y2, him, g2, x0, x1, x2, xi, Ne.symm x0, Ne.symm x1, Ne.symm x2, Ne.symm xi, hrm, hc]) ?_
    rcases hkX with rfl | rfl
    · simp -dsimp [nes8 n1, k0, k1, k2, f0, f1, f2, z1, z2, z3, nes, g1, y0, y1, y2, yn, Ne.symm y0, Ne.symm y1, Ne.symm y2, him, g2, x0, x1, x2, xi, Ne.symm x0, Ne.symm x1, Ne.symm x2, Ne.symm xi, hrm, hc]
      refine callL_ (vs := [d.v]) (hcopy _ _) (by simp -dsimp [hc]) ?_
      rintro t m2 n2 ⟨hn2, hout2, id2, st2, rfl, hj0, hj1, hjm, hst2, hne2⟩
      have q2 := hout2 2 (by omega)
      simp -dsimp [nes8 n1, k0, k1, k2, f0, f1, f2, z1, z2, z3, nes, g1, y0, y1, y2, yn, Ne.symm y0, Ne.symm y1, Ne.symm y2, him, g2, x0, x1, x2, xi, Ne.symm x0, Ne.symm x1, Ne.symm x2, Ne.symm xi, hrm] at q2
      have hc2 := hst2.cell
      have u2 : ¬ id2 = 2 := by omega
      rcases hst2 with ⟨rfl, hs2⟩ | ⟨r2, rfl, hr0, hr1, hrm2⟩
      · simp -dsimp [q2, hjm, u2, Ne.symm u2, hs2]
      · have u4 : ¬ r2 = 2 := by omega
        simp -dsimp [q2, hjm, hrm2, u2, u4, Ne.symm u2, Ne.symm u4]
    simp -dsimp [nes8 n1, k0, k1, k2, f0, f1, f2, z1, z2, z3, nes, g1, y0, y1, y2, yn, Ne.symm y0, Ne.symm y1, Ne.symm y2, him, g2, x0, x1, x2, xi, Ne.symm x0, Ne.symm x1, Ne.symm x2, Ne.symm xi, hrm, hc]
    refine call_ hpt (by simp -dsimp [nes8 n1, k0, k1, k2, f0, f1, f2, z1, z2, z3, nes, g1, y0, y1, y2, yn, Ne.symm y0, Ne.symm y1, Ne.symm y2, him, g2, x0, x1, x2, xi, Ne.symm x0, Ne.symm x1, Ne.symm x2, Ne.symm xi, hrm, hc]) ?_
    simp -dsimp [nes8 n1, k0, k1, k2, f0, f1, f2, z1, z2, z3, nes, g1, y0, y1, y2, yn, Ne.symm y0, Ne.symm y1, Ne.symm y2, him, g2, x0, x1, x2, xi, Ne.symm x0, Ne.symm x1, Ne.symm x2, Ne.symm xi, hrm, hc]
    refine call_ hpn (by simp -dsimp) ?_
    rcases htx with rfl | htx
    · simp -dsimp [nes8 n1, k0, k1, k2, f0, f1, f2, z1, z2, z3, nes, g1, y0, y1, y2, yn, Ne.symm y0, Ne.symm y1, Ne.symm y2, him, g2, x0, x1, x2, xi, Ne.symm x0, Ne.symm x1, Ne.symm x2, Ne.symm xi, hrm, hc]
      refine callL_ (vs := [d.v]) (hcopy _ _) (by simp -dsimp [hc]) ?_
      rintro t m2 n2 ⟨hn2, hout2, id2, st2, rfl, hj0, hj1, hjm, hst2, hne2⟩
      have q2 := hout2 2 (by omega)
      simp -dsimp [nes8 n1, k0, k1, k2, f0, f1, f2, z1, z2, z3, nes, g1, y0, y1, y2, yn, Ne.symm y0, Ne.symm y1, Ne.symm y2, him, g2, x0, x1, x2, xi, Ne.symm x0, Ne.symm x1, Ne.symm x2, Ne.symm xi, hrm] at q2
      have hc2 := hst2.cell
      have u2 : ¬ id2 = 2 := by omega
      rcases hst2 with ⟨rfl, hs2⟩ | ⟨r2, rfl, hr0, hr1, hrm2⟩
      · simp -dsimp [q2, hjm, u2, Ne.symm u2, hs2]
      · have u4 : ¬ r2 = 2 := by omega
        simp -dsimp [q2, hjm, hrm2, u2, u4, Ne.symm u2, Ne.symm u4]
    have hRs := hR rfl
    simp -dsimp [nes8 n1, k0, k1, k2, f0, f1, f2, z1, z2, z3, nes, g1, y0, y1, y2, yn, Ne.symm y0, Ne.symm y1, Ne.symm y2, him, g2, x0, x1, x2, xi, Ne.symm x0, Ne.symm x1, Ne.symm x2, Ne.symm xi, hrm, hc, htx]
    refine twp_draw (List.range 9) [0, n1] (List.replicate 9 [0, 1]) (List.replicate 8 [0, 1] ++ [[0]]) (by kernel_rfl) (by kernel_rfl) (by kernel_rfl) (by kernel_rfl) ?_
    simp -dsimp [List.range_succ, nes8 n1, k0, k1, k2, f0, f1, f2, z1, z2, z3, nes, g1, y0, y1, y2, yn, Ne.symm y0, Ne.symm y1, Ne.symm y2, him, g2, x0, x1, x2, xi, Ne.symm x0, Ne.symm x1, Ne.symm x2, Ne.symm xi, hrm, hc, htx]
    refine call_ hcn (by simp -dsimp) ?_
    by_cases h8 : d.past.length = 8
    · have e8 : (d.past.length : Int) = 8 := by omega
      have ek : keep8 (d.past ++ [d.now]) = (d.past ++ [d.now]).tail := by unfold keep8; rw [if_pos (by simp [h8])]; simp
      have hR2 := hRs (d.past ++ [d.now]).tail ek
      have tk : List.take 9 (List.map Place.v d.past ++ [d.now.v]) = List.map Place.v d.past ++ [d.now.v] := List.take_of_length_le (by simp [h8])
      have zk : allZ 2 (List.map Place.v d.past ++ [d.now.v]).tail := fun x hx => zplaces x (List.mem_of_mem_tail hx)
      simp only [Place.v, storyV] at tk zk
      simp -dsimp [List.range_succ, nes8 n1, k0, k1, k2, f0, f1, f2, z1, z2, z3, nes, g1, y0, y1, y2, yn, Ne.symm y0, Ne.symm y1, Ne.symm y2, him, g2, x0, x1, x2, xi, Ne.symm x0, Ne.symm x1, Ne.symm x2, Ne.symm xi, hrm, hc, htx, fullb, h8, e8, tk, zk]
      refine callL_ (vs := [(⟨⟨num, d.now.story⟩, (d.past ++ [d.now]).tail⟩ : Desk).v]) (hR2 _ _) (by simp -dsimp [nes8 n1, k0, k1, k2, f0, f1, f2, z1, z2, z3, nes, g1, y0, y1, y2, yn, Ne.symm y0, Ne.symm y1, Ne.symm y2, him, g2, x0, x1, x2, xi, Ne.symm x0, Ne.symm x1, Ne.symm x2, Ne.symm xi, hrm, hc, List.map_tail, List.map_append]) ?_
      rintro t m2 n2 ⟨hn2, hout2, id2, st2, rfl, hj0, hj1, hjm, hst2, hne2⟩
      have q2 := hout2 2 (by omega)
      simp -dsimp [nes8 n1, k0, k1, k2, f0, f1, f2, z1, z2, z3, nes, g1, y0, y1, y2, yn, Ne.symm y0, Ne.symm y1, Ne.symm y2, him, g2, x0, x1, x2, xi, Ne.symm x0, Ne.symm x1, Ne.symm x2, Ne.symm xi, hrm] at q2
      have hc2 := hst2.cell
      have u2 : ¬ id2 = 2 := by omega
      rcases hst2 with ⟨rfl, hs2⟩ | ⟨r2, rfl, hr0, hr1, hrm2⟩
      · simp -dsimp [q2, hjm, u2, Ne.symm u2, hs2, htx, ek]
      · have u4 : ¬ r2 = 2 := by omega
        simp -dsimp [q2, hjm, hrm2, u2, u4, Ne.symm u2, Ne.symm u4, htx, ek]
    · have e8 : d.past.length < 8 := by omega
      have e8' : ¬ (8 : Int) < (d.past.length : Int) + 1 := by omega
      have e8'' : ¬ 8 < d.past.length + 1 := by omega
      have ek : keep8 (d.past ++ [d.now]) = d.past ++ [d.now] := by unfold keep8; rw [if_neg (by simp; omega)]
      have hR2 := hRs (d.past ++ [d.now]) ek
      simp -dsimp [List.range_succ, nes8 n1, k0, k1, k2, f0, f1, f2, z1, z2, z3, nes, g1, y0, y1, y2, yn, Ne.symm y0, Ne.symm y1, Ne.symm y2, him, g2, x0, x1, x2, xi, Ne.symm x0, Ne.symm x1, Ne.symm x2, Ne.symm xi, hrm, hc, htx, fullb, h8, e8, e8', e8'']
      refine callL_ (vs := [(⟨⟨num, d.now.story⟩, d.past ++ [d.now]⟩ : Desk).v]) (hR2 _ _) (by simp -dsimp [nes8 n1, k0, k1, k2, f0, f1, f2, z1, z2, z3, nes, g1, y0, y1, y2, yn, Ne.symm y0, Ne.symm y1, Ne.symm y2, him, g2, x0, x1, x2, xi, Ne.symm x0, Ne.symm x1, Ne.symm x2, Ne.symm xi, hrm, hc]) ?_
      rintro t m2 n2 ⟨hn2, hout2, id2, st2, rfl, hj0, hj1, hjm, hst2, hne2⟩
      have q2 := hout2 2 (by omega)
      simp -dsimp [nes8 n1, k0, k1, k2, f0, f1, f2, z1, z2, z3, nes, g1, y0, y1, y2, yn, Ne.symm y0, Ne.symm y1, Ne.symm y2, him, g2, x0, x1, x2, xi, Ne.symm x0, Ne.symm x1, Ne.symm x2, Ne.symm xi, hrm] at q2
      have hc2 := hst2.cell
      have u2 : ¬ id2 = 2 := by omega
      rcases hst2 with ⟨rfl, hs2⟩ | ⟨r2, rfl, hr0, hr1, hrm2⟩
      · simp -dsimp [q2, hjm, u2, Ne.symm u2, hs2, htx, ek]
      · have u4 : ¬ r2 = 2 := by omega
        simp -dsimp [q2, hjm, hrm2, u2, u4, Ne.symm u2, Ne.symm u4, htx, ek]
end TL

/- Deeds at a desk: the program. -/
set_option linter.unusedSimpArgs false
set_option linter.unusedVariables false
set_option maxRecDepth 100000
set_option maxHeartbeats 4000000
set_option pp.maxSteps 1500
namespace TL
open Go Go.Proofs
attribute [local simp] marksV storyV codeV Claim.v Place.v Deed.v Desk.v
theorem do_least (d : Desk)  (hd : d.small) (hk : deskOk d = true) (X : Place) (hXl : X.story.length ≤ 7) (hX : X = ⟨d.now.people, least d.now.people.toNat d.now.story⟩) :
    FnZ Tryz.prog 6 [d.v, (⟨3, 0, []⟩ : Deed).v] (.tup [(if (placeOk X && !decide (placeTx X = placeTx d.now)) = true then ((⟨X, keep8 (d.past ++ [d.now])⟩, true) : Desk × Bool) else (d, false)).1.v, .bool (if (placeOk X && !decide (placeTx X = placeTx d.now)) = true then ((⟨X, keep8 (d.past ++ [d.now])⟩, true) : Desk × Bool) else (d, false)).2]) := by
  have hpo := placeOk_fn X (by omega)
  have hpt := placeText_fn X (by omega)
  have hpn := placeText_fn d.now (by have := hd.1.1; omega)
  have hcn := copyPlace_fn d.now hd.1
  have hok := deskOk_fn d (by have := hd.2.1; omega) (by have := hd.1.1; omega) (fun p hp => by have := (hd.2.2 p hp).1; omega)
  rw [hk] at hok
  obtain ⟨hpast, hnow, hp8⟩ := deskOk_iff.1 hk
  have hcopy := fun m n => copyDesk_own d hd m n
  have fullb : (d.past.length + 1) * 32 ≤ 140737488355328 := by omega
  have zplaces : allZ 2 (List.map Place.v d.past ++ [d.now.v]) := fun x hx => by
    rcases List.mem_append.1 hx with hx | hx
    · obtain ⟨p, _, rfl⟩ := List.mem_map.1 hx; exact ⟨by simp, by simp⟩
    · rw [List.mem_singleton.1 hx]; exact ⟨by simp, by simp⟩
  have hR : placeOk X = true → ∀ l, keep8 (d.past ++ [d.now]) = l → ∀ m n, FnS Tryz.prog 20 m n [.v (⟨X, l⟩ : Desk).v] (OwnDeskL ⟨X, l⟩ m n) := fun hX l hl m n => copyDesk_own ⟨X, l⟩ (desk_fine (deskOk_iff.2 ⟨fun p hp => by
    rw [← hl] at hp
    rcases List.mem_append.1 (keep8_mem hp) with h1 | h1
    · exact hpast p h1
    · rw [List.mem_singleton.1 h1]; exact hnow, hX, by rw [← hl]; exact keep8_len _ (by simp; omega)⟩)).1 m n
  have hls := leastStory_fn d.now.people d.now.story hnow
  have hkX := ft (placeOk X)
  have htx : placeTx X = placeTx d.now ∨ ¬ placeTx X = placeTx d.now := Classical.em _
  generalize placeTx X = tX at *
  generalize placeTx d.now = tN at *
  generalize placeOk X = okX at *
  subst hX
  generalize least d.now.people.toNat d.now.story = R at *
  refine FnZ_of (rs := [.cell 4 28, .tmp 5]) false Tryz.func6 rfl rfl rfl rfl (Nat.le_of_ble_eq_true rfl) ?_
  simp -dsimp
  refine call_ hok (by simp -dsimp) ?_
  simp -dsimp
  refine callL_ (vs := [d.v]) (hcopy _ _) (by simp -dsimp) ?_
  rintro t m1 n1 ⟨hn1, hout, id, st, rfl, hi0, hi1, him, hst, hne⟩
  have k0 := hout 0 (by omega)
  have k1 := hout 1 (by omega)
  have k2 := hout 2 (by omega)
  simp -dsimp at k0 k1 k2
  have f0 := far (show 0 < n1 by omega)
  have f1 := far (show 1 < n1 by omega)
  have f2 := far (show 2 < n1 by omega)
  have z1 : ¬ n1 = 0 := by omega
  have z2 : ¬ n1 = 1 := by omega
  have z3 : ¬ n1 = 2 := by omega
  have g1 := far hi1
  have y0 : ¬ id = 0 := by omega
  have y1 : ¬ id = 1 := by omega
  have y2 : ¬ id = 2 := by omega
  have yn : ¬ id = n1 := by omega
  have hc := hst.cell
  rcases hst with ⟨rfl, hs0⟩ | ⟨r, rfl, hr0, hr1, hrm⟩
  · have hp0 : d.past = [] := by simpa using hs0
    simp -dsimp [nes8 n1, k0, k1, k2, f0, f1, f2, z1, z2, z3, nes, g1, y0, y1, y2, yn, Ne.symm y0, Ne.symm y1, Ne.symm y2, him, hc]
    refine twp_draw (List.range 16) [n1] (List.replicate 12 [0] ++ [[], [], [], []]) (List.replicate 15 [0] ++ [[]]) (by kernel_rfl) (by kernel_rfl) (by kernel_rfl) (by kernel_rfl) ?_
    simp -dsimp [List.range_succ, nes8 n1, k0, k1, k2, f0, f1, f2, z1, z2, z3, nes, g1, y0, y1, y2, yn, Ne.symm y0, Ne.symm y1, Ne.symm y2, him, hc]
    refine call_ hls (by simp -dsimp [nes8 n1, k0, k1, k2, f0, f1, f2, z1, z2, z3, nes, g1, y0, y1, y2, yn, Ne.symm y0, Ne.symm y1, Ne.symm y2, him, hc]) ?_
    simp -dsimp [List.range_succ, nes8 n1, k0, k1, k2, f0, f1, f2, z1, z2, z3, nes, g1, y0, y1, y2, yn, Ne.symm y0, Ne.symm y1, Ne.symm y2, him, hc]
    refine twp_draw [0, 1, 2, 3, 4, 5, 6, 7, 8, 10, 11, 9, 12, 13, 14] [0, n1] (List.replicate 15 [0, 1]) (List.replicate 15 [0, 1]) (by kernel_rfl) (by kernel_rfl) (by kernel_rfl) (by kernel_rfl) ?_
    simp -dsimp [nes8 n1, k0, k1, k2, f0, f1, f2, z1, z2, z3, nes, g1, y0, y1, y2, yn, Ne.symm y0, Ne.symm y1, Ne.symm y2, him, hc, hp0]
    refine call_ hpo (by simp -dsimp [nes8 n1, k0, k1, k2, f0, f1, f2, z1, z2, z3, nes, g1, y0, y1, y2, yn, Ne.symm y0, Ne.symm y1, Ne.symm y2, him, hc, hp0]) ?_
    rcases hkX with rfl | rfl
    · simp -dsimp [nes8 n1, k0, k1, k2, f0, f1, f2, z1, z2, z3, nes, g1, y0, y1, y2, yn, Ne.symm y0, Ne.symm y1, Ne.symm y2, him, hc, hp0]
      refine callL_ (vs := [d.v]) (hcopy _ _) (by simp -dsimp [hc, hp0]) ?_
      rintro t m2 n2 ⟨hn2, hout2, id2, st2, rfl, hj0, hj1, hjm, hst2, hne2⟩
      have q2 := hout2 2 (by omega)
      simp -dsimp [nes8 n1, k0, k1, k2, f0, f1, f2, z1, z2, z3, nes, g1, y0, y1, y2, yn, Ne.symm y0, Ne.symm y1, Ne.symm y2, him] at q2
      have hc2 := hst2.cell
      have u2 : ¬ id2 = 2 := by omega
      rcases hst2 with ⟨rfl, hs2⟩ | ⟨r2, rfl, hr0, hr1, hrm2⟩
      · simp -dsimp [q2, hjm, u2, Ne.symm u2, hs2]
      · have u4 : ¬ r2 = 2 := by omega
        simp -dsimp [q2, hjm, hrm2, u2, u4, Ne.symm u2, Ne.symm u4]
    simp -dsimp [nes8 n1, k0, k1, k2, f0, f1, f2, z1, z2, z3, nes, g1, y0, y1, y2, yn, Ne.symm y0, Ne.symm y1, Ne.symm y2, him, hc, hp0]
    refine call_ hpt (by simp -dsimp [nes8 n1, k0, k1, k2, f0, f1, f2, z1, z2, z3, nes, g1, y0, y1, y2, yn, Ne.symm y0, Ne.symm y1, Ne.symm y2, him, hc, hp0]) ?_
    simp -dsimp [nes8 n1, k0, k1, k2, f0, f1, f2, z1, z2, z3, nes, g1, y0, y1, y2, yn, Ne.symm y0, Ne.symm y1, Ne.symm y2, him, hc, hp0]
    refine call_ hpn (by simp -dsimp) ?_
    rcases htx with rfl | htx
    · simp -dsimp [nes8 n1, k0, k1, k2, f0, f1, f2, z1, z2, z3, nes, g1, y0, y1, y2, yn, Ne.symm y0, Ne.symm y1, Ne.symm y2, him, hc, hp0]
      refine callL_ (vs := [d.v]) (hcopy _ _) (by simp -dsimp [hc, hp0]) ?_
      rintro t m2 n2 ⟨hn2, hout2, id2, st2, rfl, hj0, hj1, hjm, hst2, hne2⟩
      have q2 := hout2 2 (by omega)
      simp -dsimp [nes8 n1, k0, k1, k2, f0, f1, f2, z1, z2, z3, nes, g1, y0, y1, y2, yn, Ne.symm y0, Ne.symm y1, Ne.symm y2, him] at q2
      have hc2 := hst2.cell
      have u2 : ¬ id2 = 2 := by omega
      rcases hst2 with ⟨rfl, hs2⟩ | ⟨r2, rfl, hr0, hr1, hrm2⟩
      · simp -dsimp [q2, hjm, u2, Ne.symm u2, hs2]
      · have u4 : ¬ r2 = 2 := by omega
        simp -dsimp [q2, hjm, hrm2, u2, u4, Ne.symm u2, Ne.symm u4]
    have hRs := hR rfl
    simp -dsimp [nes8 n1, k0, k1, k2, f0, f1, f2, z1, z2, z3, nes, g1, y0, y1, y2, yn, Ne.symm y0, Ne.symm y1, Ne.symm y2, him, hc, hp0, htx]
    refine twp_draw (List.range 9) [0, n1] (List.replicate 9 [0, 1]) (List.replicate 8 [0, 1] ++ [[0]]) (by kernel_rfl) (by kernel_rfl) (by kernel_rfl) (by kernel_rfl) ?_
    simp -dsimp [List.range_succ, nes8 n1, k0, k1, k2, f0, f1, f2, z1, z2, z3, nes, g1, y0, y1, y2, yn, Ne.symm y0, Ne.symm y1, Ne.symm y2, him, hc, hp0, htx]
    refine call_ hcn (by simp -dsimp) ?_
    have hR2 := hRs [d.now] (by rw [hp0]; rfl)
    simp -dsimp [List.range_succ, nes8 n1, k0, k1, k2, f0, f1, f2, z1, z2, z3, nes, g1, y0, y1, y2, yn, Ne.symm y0, Ne.symm y1, Ne.symm y2, him, hc, hp0, htx]
    refine callL_ (vs := [(⟨⟨d.now.people, R⟩, [d.now]⟩ : Desk).v]) (hR2 _ _) (by simp -dsimp [nes8 n1, k0, k1, k2, f0, f1, f2, z1, z2, z3, nes, g1, y0, y1, y2, yn, Ne.symm y0, Ne.symm y1, Ne.symm y2, him, hc, hp0]) ?_
    rintro t m2 n2 ⟨hn2, hout2, id2, st2, rfl, hj0, hj1, hjm, hst2, hne2⟩
    have q2 := hout2 2 (by omega)
    simp -dsimp [nes8 n1, k0, k1, k2, f0, f1, f2, z1, z2, z3, nes, g1, y0, y1, y2, yn, Ne.symm y0, Ne.symm y1, Ne.symm y2, him] at q2
    have hc2 := hst2.cell
    have u2 : ¬ id2 = 2 := by omega
    rcases hst2 with ⟨rfl, hs2⟩ | ⟨r2, rfl, hr0, hr1, hrm2⟩
    · simp -dsimp [q2, hjm, u2, Ne.symm u2, hs2, htx, hp0, keep8]
    · have u4 : ¬ r2 = 2 := by omega
      simp -dsimp [q2, hjm, hrm2, u2, u4, Ne.symm u2, Ne.symm u4, htx, hp0, keep8]
  · have g2 := far hr1
    have x0 : ¬ r = 0 := by omega
    have x1 : ¬ r = 1 := by omega
    have x2 : ¬ r = 2 := by omega
    have xi : ¬ r = id := fun h => hne (by rw [h])
    simp -dsimp [nes8 n1, k0, k1, k2, f0, f1, f2, z1, z2, z3, nes, g1, y0, y1, y2, yn, Ne.symm y0, Ne.symm y1, Ne.symm y2, him, g2, x0, x1, x2, xi, Ne.symm x0, Ne.symm x1, Ne.symm x2, Ne.symm xi, hrm, hc]
    refine twp_draw (List.range 16) [n1] (List.replicate 12 [0] ++ [[], [], [], []]) (List.replicate 15 [0] ++ [[]]) (by kernel_rfl) (by kernel_rfl) (by kernel_rfl) (by kernel_rfl) ?_
    simp -dsimp [List.range_succ, nes8 n1, k0, k1, k2, f0, f1, f2, z1, z2, z3, nes, g1, y0, y1, y2, yn, Ne.symm y0, Ne.symm y1, Ne.symm y2, him, g2, x0, x1, x2, xi, Ne.symm x0, Ne.symm x1, Ne.symm x2, Ne.symm xi, hrm, hc]
    refine call_ hls (by simp -dsimp [nes8 n1, k0, k1, k2, f0, f1, f2, z1, z2, z3, nes, g1, y0, y1, y2, yn, Ne.symm y0, Ne.symm y1, Ne.symm y2, him, g2, x0, x1, x2, xi, Ne.symm x0, Ne.symm x1, Ne.symm x2, Ne.symm xi, hrm, hc]) ?_
    simp -dsimp [List.range_succ, nes8 n1, k0, k1, k2, f0, f1, f2, z1, z2, z3, nes, g1, y0, y1, y2, yn, Ne.symm y0, Ne.symm y1, Ne.symm y2, him, g2, x0, x1, x2, xi, Ne.symm x0, Ne.symm x1, Ne.symm x2, Ne.symm xi, hrm, hc]
    refine twp_draw [0, 1, 2, 3, 4, 5, 6, 7, 8, 10, 11, 9, 12, 13, 14] [0, n1] (List.replicate 15 [0, 1]) (List.replicate 15 [0, 1]) (by kernel_rfl) (by kernel_rfl) (by kernel_rfl) (by kernel_rfl) ?_
    simp -dsimp [nes8 n1, k0, k1, k2, f0, f1, f2, z1, z2, z3, nes, g1, y0, y1, y2, yn, Ne.symm y0, Ne.symm y1, Ne.symm y2, him, g2, x0, x1, x2, xi, Ne.symm x0, Ne.symm x1, Ne.symm x2, Ne.symm xi, hrm, hc]
    refine call_ hpo (by simp -dsimp [nes8 n1, k0, k1, k2, f0, f1, f2, z1, z2, z3, nes, g1, y0, y1, y2, yn, Ne.symm y0, Ne.symm y1, Ne.symm y2, him, g2, x0, x1, x2, xi, Ne.symm x0, Ne.symm x1, Ne.symm x2, Ne.symm xi, hrm, hc]) ?_
    rcases hkX with rfl | rfl
    · simp -dsimp [nes8 n1, k0, k1, k2, f0, f1, f2, z1, z2, z3, nes, g1, y0, y1, y2, yn, Ne.symm y0, Ne.symm y1, Ne.symm y2, him, g2, x0, x1, x2, xi, Ne.symm x0, Ne.symm x1, Ne.symm x2, Ne.symm xi, hrm, hc]
      refine callL_ (vs := [d.v]) (hcopy _ _) (by simp -dsimp [hc]) ?_
      rintro t m2 n2 ⟨hn2, hout2, id2, st2, rfl, hj0, hj1, hjm, hst2, hne2⟩
      have q2 := hout2 2 (by omega)
      simp -dsimp [nes8 n1, k0, k1, k2, f0, f1, f2, z1, z2, z3, nes, g1, y0, y1, y2, yn, Ne.symm y0, Ne.symm y1, Ne.symm y2, him, g2, x0, x1, x2, xi, Ne.symm x0, Ne.symm x1, Ne.symm x2, Ne.symm xi, hrm] at q2
      have hc2 := hst2.cell
      have u2 : ¬ id2 = 2 := by omega
      rcases hst2 with ⟨rfl, hs2⟩ | ⟨r2, rfl, hr0, hr1, hrm2⟩
      · simp -dsimp [q2, hjm, u2, Ne.symm u2, hs2]
      · have u4 : ¬ r2 = 2 := by omega
        simp -dsimp [q2, hjm, hrm2, u2, u4, Ne.symm u2, Ne.symm u4]
    simp -dsimp [nes8 n1, k0, k1, k2, f0, f1, f2, z1, z2, z3, nes, g1, y0, y1, y2, yn, Ne.symm y0, Ne.symm y1, Ne.symm y2, him, g2, x0, x1, x2, xi, Ne.symm x0, Ne.symm x1, Ne.symm x2, Ne.symm xi, hrm, hc]
    refine call_ hpt (by simp -dsimp [nes8 n1, k0, k1, k2, f0, f1, f2, z1, z2, z3, nes, g1, y0, y1, y2, yn, Ne.symm y0, Ne.symm y1, Ne.symm y2, him, g2, x0, x1, x2, xi, Ne.symm x0, Ne.symm x1, Ne.symm x2, Ne.symm xi, hrm, hc]) ?_
    simp -dsimp [nes8 n1, k0, k1, k2, f0, f1, f2, z1, z2, z3, nes, g1, y0, y1, y2, yn, Ne.symm y0, Ne.symm y1, Ne.symm y2, him, g2, x0, x1, x2, xi, Ne.symm x0, Ne.symm x1, Ne.symm x2, Ne.symm xi, hrm, hc]
    refine call_ hpn (by simp -dsimp) ?_
    rcases htx with rfl | htx
    · simp -dsimp [nes8 n1, k0, k1, k2, f0, f1, f2, z1, z2, z3, nes, g1, y0, y1, y2, yn, Ne.symm y0, Ne.symm y1, Ne.symm y2, him, g2, x0, x1, x2, xi, Ne.symm x0, Ne.symm x1, Ne.symm x2, Ne.symm xi, hrm, hc]
      refine callL_ (vs := [d.v]) (hcopy _ _) (by simp -dsimp [hc]) ?_
      rintro t m2 n2 ⟨hn2, hout2, id2, st2, rfl, hj0, hj1, hjm, hst2, hne2⟩
      have q2 := hout2 2 (by omega)
      simp -dsimp [nes8 n1, k0, k1, k2, f0, f1, f2, z1, z2, z3, nes, g1, y0, y1, y2, yn, Ne.symm y0, Ne.symm y1, Ne.symm y2, him, g2, x0, x1, x2, xi, Ne.symm x0, Ne.symm x1, Ne.symm x2, Ne.symm xi, hrm] at q2
      have hc2 := hst2.cell
      have u2 : ¬ id2 = 2 := by omega
      rcases hst2 with ⟨rfl, hs2⟩ | ⟨r2, rfl, hr0, hr1, hrm2⟩
      · simp -dsimp [q2, hjm, u2, Ne.symm u2, hs2]
      · have u4 : ¬ r2 = 2 := by omega
        simp -dsimp [q2, hjm, hrm2, u2, u4, Ne.symm u2, Ne.symm u4]
    have hRs := hR rfl
    simp -dsimp [nes8 n1, k0, k1, k2, f0, f1, f2, z1, z2, z3, nes, g1, y0, y1, y2, yn, Ne.symm y0, Ne.symm y1, Ne.symm y2, him, g2, x0, x1, x2, xi, Ne.symm x0, Ne.symm x1, Ne.symm x2, Ne.symm xi, hrm, hc, htx]
    refine twp_draw (List.range 9) [0, n1] (List.replicate 9 [0, 1]) (List.replicate 8 [0, 1] ++ [[0]]) (by kernel_rfl) (by kernel_rfl) (by kernel_rfl) (by kernel_rfl) ?_
    simp -dsimp [List.range_succ, nes8 n1, k0, k1, k2, f0, f1, f2, z1, z2, z3, nes, g1, y0, y1, y2, yn, Ne.symm y0, Ne.symm y1, Ne.symm y2, him, g2, x0, x1, x2, xi, Ne.symm x0, Ne.symm x1, Ne.symm x2, Ne.symm xi, hrm, hc, htx]
    refine call_ hcn (by simp -dsimp) ?_
    by_cases h8 : d.past.length = 8
    · have e8 : (d.past.length : Int) = 8 := by omega
      have ek : keep8 (d.past ++ [d.now]) = (d.past ++ [d.now]).tail := by unfold keep8; rw [if_pos (by simp [h8])]; simp
      have hR2 := hRs (d.past ++ [d.now]).tail ek
      have tk : List.take 9 (List.map Place.v d.past ++ [d.now.v]) = List.map Place.v d.past ++ [d.now.v] := List.take_of_length_le (by simp [h8])
      have zk : allZ 2 (List.map Place.v d.past ++ [d.now.v]).tail := fun x hx => zplaces x (List.mem_of_mem_tail hx)
      simp only [Place.v, storyV] at tk zk
      simp -dsimp [List.range_succ, nes8 n1, k0, k1, k2, f0, f1, f2, z1, z2, z3, nes, g1, y0, y1, y2, yn, Ne.symm y0, Ne.symm y1, Ne.symm y2, him, g2, x0, x1, x2, xi, Ne.symm x0, Ne.symm x1, Ne.symm x2, Ne.symm xi, hrm, hc, htx, fullb, h8, e8, tk, zk]
      refine callL_ (vs := [(⟨⟨d.now.people, R⟩, (d.past ++ [d.now]).tail⟩ : Desk).v]) (hR2 _ _) (by simp -dsimp [nes8 n1, k0, k1, k2, f0, f1, f2, z1, z2, z3, nes, g1, y0, y1, y2, yn, Ne.symm y0, Ne.symm y1, Ne.symm y2, him, g2, x0, x1, x2, xi, Ne.symm x0, Ne.symm x1, Ne.symm x2, Ne.symm xi, hrm, hc, List.map_tail, List.map_append]) ?_
      rintro t m2 n2 ⟨hn2, hout2, id2, st2, rfl, hj0, hj1, hjm, hst2, hne2⟩
      have q2 := hout2 2 (by omega)
      simp -dsimp [nes8 n1, k0, k1, k2, f0, f1, f2, z1, z2, z3, nes, g1, y0, y1, y2, yn, Ne.symm y0, Ne.symm y1, Ne.symm y2, him, g2, x0, x1, x2, xi, Ne.symm x0, Ne.symm x1, Ne.symm x2, Ne.symm xi, hrm] at q2
      have hc2 := hst2.cell
      have u2 : ¬ id2 = 2 := by omega
      rcases hst2 with ⟨rfl, hs2⟩ | ⟨r2, rfl, hr0, hr1, hrm2⟩
      · simp -dsimp [q2, hjm, u2, Ne.symm u2, hs2, htx, ek]
      · have u4 : ¬ r2 = 2 := by omega
        simp -dsimp [q2, hjm, hrm2, u2, u4, Ne.symm u2, Ne.symm u4, htx, ek]
    · have e8 : d.past.length < 8 := by omega
      have e8' : ¬ (8 : Int) < (d.past.length : Int) + 1 := by omega
      have e8'' : ¬ 8 < d.past.length + 1 := by omega
      have ek : keep8 (d.past ++ [d.now]) = d.past ++ [d.now] := by unfold keep8; rw [if_neg (by simp; omega)]
      have hR2 := hRs (d.past ++ [d.now]) ek
      simp -dsimp [List.range_succ, nes8 n1, k0, k1, k2, f0, f1, f2, z1, z2, z3, nes, g1, y0, y1, y2, yn, Ne.symm y0, Ne.symm y1, Ne.symm y2, him, g2, x0, x1, x2, xi, Ne.symm x0, Ne.symm x1, Ne.symm x2, Ne.symm xi, hrm, hc, htx, fullb, h8, e8, e8', e8'']
      refine callL_ (vs := [(⟨⟨d.now.people, R⟩, d.past ++ [d.now]⟩ : Desk).v]) (hR2 _ _) (by simp -dsimp [nes8 n1, k0, k1, k2, f0, f1, f2, z1, z2, z3, nes, g1, y0, y1, y2, yn, Ne.symm y0, Ne.symm y1, Ne.symm y2, him, g2, x0, x1, x2, xi, Ne.symm x0, Ne.symm x1, Ne.symm x2, Ne.symm xi, hrm, hc]) ?_
      rintro t m2 n2 ⟨hn2, hout2, id2, st2, rfl, hj0, hj1, hjm, hst2, hne2⟩
      have q2 := hout2 2 (by omega)
      simp -dsimp [nes8 n1, k0, k1, k2, f0, f1, f2, z1, z2, z3, nes, g1, y0, y1, y2, yn, Ne.symm y0, Ne.symm y1, Ne.symm y2, him, g2, x0, x1, x2, xi, Ne.symm x0, Ne.symm x1, Ne.symm x2, Ne.symm xi, hrm] at q2
      have hc2 := hst2.cell
      have u2 : ¬ id2 = 2 := by omega
      rcases hst2 with ⟨rfl, hs2⟩ | ⟨r2, rfl, hr0, hr1, hrm2⟩
      · simp -dsimp [q2, hjm, u2, Ne.symm u2, hs2, htx, ek]
      · have u4 : ¬ r2 = 2 := by omega
        simp -dsimp [q2, hjm, hrm2, u2, u4, Ne.symm u2, Ne.symm u4, htx, ek]
end TL

/- Deeds at a desk: the program. -/
set_option linter.unusedSimpArgs false
set_option linter.unusedVariables false
set_option maxRecDepth 100000
set_option maxHeartbeats 4000000
set_option pp.maxSteps 1500
namespace TL
open Go Go.Proofs
attribute [local simp] marksV storyV codeV Claim.v Place.v Deed.v Desk.v
theorem do_drop (d : Desk) (k : Nat) (hd : d.small) (hk : deskOk d = true) (X : Place) (hXl : X.story.length ≤ 7) (hlt : k < d.now.story.length) (hX : X = ⟨d.now.people, d.now.story.eraseIdx k⟩) :
    FnZ Tryz.prog 6 [d.v, (⟨1, (k : Int), []⟩ : Deed).v] (.tup [(if (placeOk X && !decide (placeTx X = placeTx d.now)) = true then ((⟨X, keep8 (d.past ++ [d.now])⟩, true) : Desk × Bool) else (d, false)).1.v, .bool (if (placeOk X && !decide (placeTx X = placeTx d.now)) = true then ((⟨X, keep8 (d.past ++ [d.now])⟩, true) : Desk × Bool) else (d, false)).2]) := by
  have hpo := placeOk_fn X (by omega)
  have hpt := placeText_fn X (by omega)
  have hpn := placeText_fn d.now (by have := hd.1.1; omega)
  have hcn := copyPlace_fn d.now hd.1
  have hok := deskOk_fn d (by have := hd.2.1; omega) (by have := hd.1.1; omega) (fun p hp => by have := (hd.2.2 p hp).1; omega)
  rw [hk] at hok
  obtain ⟨hpast, hnow, hp8⟩ := deskOk_iff.1 hk
  have hcopy := fun m n => copyDesk_own d hd m n
  have fullb : (d.past.length + 1) * 32 ≤ 140737488355328 := by omega
  have zplaces : allZ 2 (List.map Place.v d.past ++ [d.now.v]) := fun x hx => by
    rcases List.mem_append.1 hx with hx | hx
    · obtain ⟨p, _, rfl⟩ := List.mem_map.1 hx; exact ⟨by simp, by simp⟩
    · rw [List.mem_singleton.1 hx]; exact ⟨by simp, by simp⟩
  have hR : placeOk X = true → ∀ l, keep8 (d.past ++ [d.now]) = l → ∀ m n, FnS Tryz.prog 20 m n [.v (⟨X, l⟩ : Desk).v] (OwnDeskL ⟨X, l⟩ m n) := fun hX l hl m n => copyDesk_own ⟨X, l⟩ (desk_fine (deskOk_iff.2 ⟨fun p hp => by
    rw [← hl] at hp
    rcases List.mem_append.1 (keep8_mem hp) with h1 | h1
    · exact hpast p h1
    · rw [List.mem_singleton.1 h1]; exact hnow, hX, by rw [← hl]; exact keep8_len _ (by simp; omega)⟩)).1 m n
  have hw := without_fn d.now.story k hlt (by have := hd.1.1; omega)
  have hkX := ft (placeOk X)
  have htx : placeTx X = placeTx d.now ∨ ¬ placeTx X = placeTx d.now := Classical.em _
  generalize placeTx X = tX at *
  generalize placeTx d.now = tN at *
  generalize placeOk X = okX at *
  subst hX
  have c1 : ¬ (d.now.story.length : Int) ≤ k := by omega
  have c2 : ¬ d.now.story.length ≤ k := by omega
  have c3 : ¬ (k : Int) < 0 := by omega
  generalize d.now.story.eraseIdx k = R at *
  refine FnZ_of (rs := [.cell 4 28, .tmp 5]) false Tryz.func6 rfl rfl rfl rfl (Nat.le_of_ble_eq_true rfl) ?_
  simp -dsimp
  refine call_ hok (by simp -dsimp) ?_
  simp -dsimp
  refine callL_ (vs := [d.v]) (hcopy _ _) (by simp -dsimp) ?_
  rintro t m1 n1 ⟨hn1, hout, id, st, rfl, hi0, hi1, him, hst, hne⟩
  have k0 := hout 0 (by omega)
  have k1 := hout 1 (by omega)
  have k2 := hout 2 (by omega)
  simp -dsimp at k0 k1 k2
  have f0 := far (show 0 < n1 by omega)
  have f1 := far (show 1 < n1 by omega)
  have f2 := far (show 2 < n1 by omega)
  have z1 : ¬ n1 = 0 := by omega
  have z2 : ¬ n1 = 1 := by omega
  have z3 : ¬ n1 = 2 := by omega
  have g1 := far hi1
  have y0 : ¬ id = 0 := by omega
  have y1 : ¬ id = 1 := by omega
  have y2 : ¬ id = 2 := by omega
  have yn : ¬ id = n1 := by omega
  have hc := hst.cell
  rcases hst with ⟨rfl, hs0⟩ | ⟨r, rfl, hr0, hr1, hrm⟩
  · have hp0 : d.past = [] := by simpa using hs0
    simp -dsimp [nes8 n1, k0, k1, k2, f0, f1, f2, z1, z2, z3, nes, g1, y0, y1, y2, yn, Ne.symm y0, Ne.symm y1, Ne.symm y2, him, hc, c1, c2, c3]
    refine twp_draw (List.range 13) [1, n1, id] (List.replicate 13 [0, 1, 2]) (List.replicate 13 [0, 1, 2]) (by kernel_rfl) (by kernel_rfl) (by kernel_rfl) (by kernel_rfl) ?_
    simp -dsimp [List.range_succ, nes8 n1, k0, k1, k2, f0, f1, f2, z1, z2, z3, nes, g1, y0, y1, y2, yn, Ne.symm y0, Ne.symm y1, Ne.symm y2, him, hc, c1, c2, c3]
    refine twp_draw (List.range 11) [1, n1] (List.replicate 8 [0, 1] ++ [[], [], []]) (List.replicate 10 [0, 1] ++ [[0]]) (by kernel_rfl) (by kernel_rfl) (by kernel_rfl) (by kernel_rfl) ?_
    simp -dsimp [List.range_succ, nes8 n1, k0, k1, k2, f0, f1, f2, z1, z2, z3, nes, g1, y0, y1, y2, yn, Ne.symm y0, Ne.symm y1, Ne.symm y2, him, hc, c1, c2, c3]
    refine call_ hw (by simp -dsimp [nes8 n1, k0, k1, k2, f0, f1, f2, z1, z2, z3, nes, g1, y0, y1, y2, yn, Ne.symm y0, Ne.symm y1, Ne.symm y2, him, hc, c1, c2, c3]) ?_
    simp -dsimp [List.range_succ, nes8 n1, k0, k1, k2, f0, f1, f2, z1, z2, z3, nes, g1, y0, y1, y2, yn, Ne.symm y0, Ne.symm y1, Ne.symm y2, him, hc, c1, c2, c3]
    refine twp_draw [0, 1, 2, 3, 4, 5, 6, 7, 8, 10, 11, 9, 12, 13, 14] [0, n1] (List.replicate 15 [0, 1]) (List.replicate 15 [0, 1]) (by kernel_rfl) (by kernel_rfl) (by kernel_rfl) (by kernel_rfl) ?_
    simp -dsimp [nes8 n1, k0, k1, k2, f0, f1, f2, z1, z2, z3, nes, g1, y0, y1, y2, yn, Ne.symm y0, Ne.symm y1, Ne.symm y2, him, hc, c1, c2, c3, hp0]
    refine call_ hpo (by simp -dsimp [nes8 n1, k0, k1, k2, f0, f1, f2, z1, z2, z3, nes, g1, y0, y1, y2, yn, Ne.symm y0, Ne.symm y1, Ne.symm y2, him, hc, c1, c2, c3, hp0]) ?_
    rcases hkX with rfl | rfl
    · simp -dsimp [nes8 n1, k0, k1, k2, f0, f1, f2, z1, z2, z3, nes, g1, y0, y1, y2, yn, Ne.symm y0, Ne.symm y1, Ne.symm y2, him, hc, c1, c2, c3, hp0]
      refine callL_ (vs := [d.v]) (hcopy _ _) (by simp -dsimp [hc, c1, c2, c3, hp0]) ?_
      rintro t m2 n2 ⟨hn2, hout2, id2, st2, rfl, hj0, hj1, hjm, hst2, hne2⟩
      have q2 := hout2 2 (by omega)
      simp -dsimp [nes8 n1, k0, k1, k2, f0, f1, f2, z1, z2, z3, nes, g1, y0, y1, y2, yn, Ne.symm y0, Ne.symm y1, Ne.symm y2, him] at q2
      have hc2 := hst2.cell
      have u2 : ¬ id2 = 2 := by omega
      rcases hst2 with ⟨rfl, hs2⟩ | ⟨r2, rfl, hr0, hr1, hrm2⟩
      · simp -dsimp [q2, hjm, u2, Ne.symm u2, hs2]
      · have u4 : ¬ r2 = 2 := by omega
        simp -dsimp [q2, hjm, hrm2, u2, u4, Ne.symm u2, Ne.symm u4]
    simp -dsimp [nes8 n1, k0, k1, k2, f0, f1, f2, z1, z2, z3, nes, g1, y0, y1, y2, yn, Ne.symm y0, Ne.symm y1, Ne.symm y2, him, hc, c1, c2, c3, hp0]
    refine call_ hpt (by simp -dsimp [nes8 n1, k0, k1, k2, f0, f1, f2, z1, z2, z3, nes, g1, y0, y1, y2, yn, Ne.symm y0, Ne.symm y1, Ne.symm y2, him, hc, c1, c2, c3, hp0]) ?_
    simp -dsimp [nes8 n1, k0, k1, k2, f0, f1, f2, z1, z2, z3, nes, g1, y0, y1, y2, yn, Ne.symm y0, Ne.symm y1, Ne.symm y2, him, hc, c1, c2, c3, hp0]
    refine call_ hpn (by simp -dsimp) ?_
    rcases htx with rfl | htx
    · simp -dsimp [nes8 n1, k0, k1, k2, f0, f1, f2, z1, z2, z3, nes, g1, y0, y1, y2, yn, Ne.symm y0, Ne.symm y1, Ne.symm y2, him, hc, c1, c2, c3, hp0]
      refine callL_ (vs := [d.v]) (hcopy _ _) (by simp -dsimp [hc, c1, c2, c3, hp0]) ?_
      rintro t m2 n2 ⟨hn2, hout2, id2, st2, rfl, hj0, hj1, hjm, hst2, hne2⟩
      have q2 := hout2 2 (by omega)
      simp -dsimp [nes8 n1, k0, k1, k2, f0, f1, f2, z1, z2, z3, nes, g1, y0, y1, y2, yn, Ne.symm y0, Ne.symm y1, Ne.symm y2, him] at q2
      have hc2 := hst2.cell
      have u2 : ¬ id2 = 2 := by omega
      rcases hst2 with ⟨rfl, hs2⟩ | ⟨r2, rfl, hr0, hr1, hrm2⟩
      · simp -dsimp [q2, hjm, u2, Ne.symm u2, hs2]
      · have u4 : ¬ r2 = 2 := by omega
        simp -dsimp [q2, hjm, hrm2, u2, u4, Ne.symm u2, Ne.symm u4]
    have hRs := hR rfl
    simp -dsimp [nes8 n1, k0, k1, k2, f0, f1, f2, z1, z2, z3, nes, g1, y0, y1, y2, yn, Ne.symm y0, Ne.symm y1, Ne.symm y2, him, hc, c1, c2, c3, hp0, htx]
    refine twp_draw (List.range 9) [0, n1] (List.replicate 9 [0, 1]) (List.replicate 8 [0, 1] ++ [[0]]) (by kernel_rfl) (by kernel_rfl) (by kernel_rfl) (by kernel_rfl) ?_
    simp -dsimp [List.range_succ, nes8 n1, k0, k1, k2, f0, f1, f2, z1, z2, z3, nes, g1, y0, y1, y2, yn, Ne.symm y0, Ne.symm y1, Ne.symm y2, him, hc, c1, c2, c3, hp0, htx]
    refine call_ hcn (by simp -dsimp) ?_
    have hR2 := hRs [d.now] (by rw [hp0]; rfl)
    simp -dsimp [List.range_succ, nes8 n1, k0, k1, k2, f0, f1, f2, z1, z2, z3, nes, g1, y0, y1, y2, yn, Ne.symm y0, Ne.symm y1, Ne.symm y2, him, hc, c1, c2, c3, hp0, htx]
    refine callL_ (vs := [(⟨⟨d.now.people, R⟩, [d.now]⟩ : Desk).v]) (hR2 _ _) (by simp -dsimp [nes8 n1, k0, k1, k2, f0, f1, f2, z1, z2, z3, nes, g1, y0, y1, y2, yn, Ne.symm y0, Ne.symm y1, Ne.symm y2, him, hc, c1, c2, c3, hp0]) ?_
    rintro t m2 n2 ⟨hn2, hout2, id2, st2, rfl, hj0, hj1, hjm, hst2, hne2⟩
    have q2 := hout2 2 (by omega)
    simp -dsimp [nes8 n1, k0, k1, k2, f0, f1, f2, z1, z2, z3, nes, g1, y0, y1, y2, yn, Ne.symm y0, Ne.symm y1, Ne.symm y2, him] at q2
    have hc2 := hst2.cell
    have u2 : ¬ id2 = 2 := by omega
    rcases hst2 with ⟨rfl, hs2⟩ | ⟨r2, rfl, hr0, hr1, hrm2⟩
    · simp -dsimp [q2, hjm, u2, Ne.symm u2, hs2, htx, hp0, keep8]
    · have u4 : ¬ r2 = 2 := by omega
      simp -dsimp [q2, hjm, hrm2, u2, u4, Ne.symm u2, Ne.symm u4, htx, hp0, keep8]
  · have g2 := far hr1
    have x0 : ¬ r = 0 := by omega
    have x1 : ¬ r = 1 := by omega
    have x2 : ¬ r = 2 := by omega
    have xi : ¬ r = id := fun h => hne (by rw [h])
    simp -dsimp [nes8 n1, k0, k1, k2, f0, f1, f2, z1, z2, z3, nes, g1, y0, y1, y2, yn, Ne.symm y0, Ne.symm y1, Ne.symm y2, him, g2, x0, x1, x2, xi, Ne.symm x0, Ne.symm x1, Ne.symm x2, Ne.symm xi, hrm, hc, c1, c2, c3]
    refine twp_draw (List.range 13) [1, n1, id] (List.replicate 13 [0, 1, 2]) (List.replicate 13 [0, 1, 2]) (by kernel_rfl) (by kernel_rfl) (by kernel_rfl) (by kernel_rfl) ?_
    simp -dsimp [List.range_succ, nes8 n1, k0, k1, k2, f0, f1, f2, z1, z2, z3, nes, g1, y0, y1, y2, yn, Ne.symm y0, Ne.symm y1, Ne.symm y2, him, g2, x0, x1, x2, xi, Ne.symm x0, Ne.symm x1, Ne.symm x2, Ne.symm xi, hrm, hc, c1, c2, c3]
    refine twp_draw (List.range 11) [1, n1] (List.replicate 8 [0, 1] ++ [[], [], []]) (List.replicate 10 [0, 1] ++ [[0]]) (by kernel_rfl) (by kernel_rfl) (by kernel_rfl) (by kernel_rfl) ?_
    simp -dsimp [List.range_succ, nes8 n1, k0, k1, k2, f0, f1, f2, z1, z2, z3, nes, g1, y0, y1, y2, yn, Ne.symm y0, Ne.symm y1, Ne.symm y2, him, g2, x0, x1, x2, xi, Ne.symm x0, Ne.symm x1, Ne.symm x2, Ne.symm xi, hrm, hc, c1, c2, c3]
    refine call_ hw (by simp -dsimp [nes8 n1, k0, k1, k2, f0, f1, f2, z1, z2, z3, nes, g1, y0, y1, y2, yn, Ne.symm y0, Ne.symm y1, Ne.symm y2, him, g2, x0, x1, x2, xi, Ne.symm x0, Ne.symm x1, Ne.symm x2, Ne.symm xi, hrm, hc, c1, c2, c3]) ?_
    simp -dsimp [List.range_succ, nes8 n1, k0, k1, k2, f0, f1, f2, z1, z2, z3, nes, g1, y0, y1, y2, yn, Ne.symm y0, Ne.symm y1, Ne.symm y2, him, g2, x0, x1, x2, xi, Ne.symm x0, Ne.symm x1, Ne.symm x2, Ne.symm xi, hrm, hc, c1, c2, c3]
    refine twp_draw [0, 1, 2, 3, 4, 5, 6, 7, 8, 10, 11, 9, 12, 13, 14] [0, n1] (List.replicate 15 [0, 1]) (List.replicate 15 [0, 1]) (by kernel_rfl) (by kernel_rfl) (by kernel_rfl) (by kernel_rfl) ?_
    simp -dsimp [nes8 n1, k0, k1, k2, f0, f1, f2, z1, z2, z3, nes, g1, y0, y1, y2, yn, Ne.symm y0, Ne.symm y1, Ne.symm y2, him, g2, x0, x1, x2, xi, Ne.symm x0, Ne.symm x1, Ne.symm x2, Ne.symm xi, hrm, hc, c1, c2, c3]
    refine call_ hpo (by simp -dsimp [nes8 n1, k0, k1, k2, f0, f1, f2, z1, z2, z3, nes, g1, y0, y1, y2, yn, Ne.symm y0, Ne.symm y1, Ne.symm y2, him, g2, x0, x1, x2, xi, Ne.symm x0, Ne.symm x1, Ne.symm x2, Ne.symm xi, hrm, hc, c1, c2, c3]) ?_
    rcases hkX with rfl | rfl
    · simp -dsimp [nes8 n1, k0, k1, k2, f0, f1, f2, z1, z2, z3, nes, g1, y0, y1, y2, yn, Ne.symm y0, Ne.symm y1, Ne.symm y2, him, g2, x0, x1, x2, xi, Ne.symm x0, Ne.symm x1, Ne.symm x2, Ne.symm xi, hrm, hc, c1, c2, c3]
      refine callL_ (vs := [d.v]) (hcopy _ _) (by simp -dsimp [hc, c1, c2, c3]) ?_
      rintro t m2 n2 ⟨hn2, hout2, id2, st2, rfl, hj0, hj1, hjm, hst2, hne2⟩
      have q2 := hout2 2 (by omega)
      simp -dsimp [nes8 n1, k0, k1, k2, f0, f1, f2, z1, z2, z3, nes, g1, y0, y1, y2, yn, Ne.symm y0, Ne.symm y1, Ne.symm y2, him, g2, x0, x1, x2, xi, Ne.symm x0, Ne.symm x1, Ne.symm x2, Ne.symm xi, hrm] at q2
      have hc2 := hst2.cell
      have u2 : ¬ id2 = 2 := by omega
      rcases hst2 with ⟨rfl, hs2⟩ | ⟨r2, rfl, hr0, hr1, hrm2⟩
      · simp -dsimp [q2, hjm, u2, Ne.symm u2, hs2]
      · have u4 : ¬ r2 = 2 := by omega
        simp -dsimp [q2, hjm, hrm2, u2, u4, Ne.symm u2, Ne.symm u4]
    simp -dsimp [nes8 n1, k0, k1, k2, f0, f1, f2, z1, z2, z3, nes, g1, y0, y1, y2, yn, Ne.symm y0, Ne.symm y1, Ne.symm y2, him, g2, x0, x1, x2, xi, Ne.symm x0, Ne.symm x1, Ne.symm x2, Ne.symm xi, hrm, hc, c1, c2, c3]
    refine call_ hpt (by simp -dsimp [nes8 n1, k0, k1, k2, f0, f1, f2, z1, z2, z3, nes, g1, y0, y1, y2, yn, Ne.symm y0, Ne.symm y1, Ne.symm y2, him, g2, x0, x1, x2, xi, Ne.symm x0, Ne.symm x1, Ne.symm x2, Ne.symm xi, hrm, hc, c1, c2, c3]) ?_
    simp -dsimp [nes8 n1, k0, k1, k2, f0, f1, f2, z1, z2, z3, nes, g1, y0, y1, y2, yn, Ne.symm y0, Ne.symm y1, Ne.symm y2, him, g2, x0, x1, x2, xi, Ne.symm x0, Ne.symm x1, Ne.symm x2, Ne.symm xi, hrm, hc, c1, c2, c3]
    refine call_ hpn (by simp -dsimp) ?_
    rcases htx with rfl | htx
    · simp -dsimp [nes8 n1, k0, k1, k2, f0, f1, f2, z1, z2, z3, nes, g1, y0, y1, y2, yn, Ne.symm y0, Ne.symm y1, Ne.symm y2, him, g2, x0, x1, x2, xi, Ne.symm x0, Ne.symm x1, Ne.symm x2, Ne.symm xi, hrm, hc, c1, c2, c3]
      refine callL_ (vs := [d.v]) (hcopy _ _) (by simp -dsimp [hc, c1, c2, c3]) ?_
      rintro t m2 n2 ⟨hn2, hout2, id2, st2, rfl, hj0, hj1, hjm, hst2, hne2⟩
      have q2 := hout2 2 (by omega)
      simp -dsimp [nes8 n1, k0, k1, k2, f0, f1, f2, z1, z2, z3, nes, g1, y0, y1, y2, yn, Ne.symm y0, Ne.symm y1, Ne.symm y2, him, g2, x0, x1, x2, xi, Ne.symm x0, Ne.symm x1, Ne.symm x2, Ne.symm xi, hrm] at q2
      have hc2 := hst2.cell
      have u2 : ¬ id2 = 2 := by omega
      rcases hst2 with ⟨rfl, hs2⟩ | ⟨r2, rfl, hr0, hr1, hrm2⟩
      · simp -dsimp [q2, hjm, u2, Ne.symm u2, hs2]
      · have u4 : ¬ r2 = 2 := by omega
        simp -dsimp [q2, hjm, hrm2, u2, u4, Ne.symm u2, Ne.symm u4]
    have hRs := hR rfl
    simp -dsimp [nes8 n1, k0, k1, k2, f0, f1, f2, z1, z2, z3, nes, g1, y0, y1, y2, yn, Ne.symm y0, Ne.symm y1, Ne.symm y2, him, g2, x0, x1, x2, xi, Ne.symm x0, Ne.symm x1, Ne.symm x2, Ne.symm xi, hrm, hc, c1, c2, c3, htx]
    refine twp_draw (List.range 9) [0, n1] (List.replicate 9 [0, 1]) (List.replicate 8 [0, 1] ++ [[0]]) (by kernel_rfl) (by kernel_rfl) (by kernel_rfl) (by kernel_rfl) ?_
    simp -dsimp [List.range_succ, nes8 n1, k0, k1, k2, f0, f1, f2, z1, z2, z3, nes, g1, y0, y1, y2, yn, Ne.symm y0, Ne.symm y1, Ne.symm y2, him, g2, x0, x1, x2, xi, Ne.symm x0, Ne.symm x1, Ne.symm x2, Ne.symm xi, hrm, hc, c1, c2, c3, htx]
    refine call_ hcn (by simp -dsimp) ?_
    by_cases h8 : d.past.length = 8
    · have e8 : (d.past.length : Int) = 8 := by omega
      have ek : keep8 (d.past ++ [d.now]) = (d.past ++ [d.now]).tail := by unfold keep8; rw [if_pos (by simp [h8])]; simp
      have hR2 := hRs (d.past ++ [d.now]).tail ek
      have tk : List.take 9 (List.map Place.v d.past ++ [d.now.v]) = List.map Place.v d.past ++ [d.now.v] := List.take_of_length_le (by simp [h8])
      have zk : allZ 2 (List.map Place.v d.past ++ [d.now.v]).tail := fun x hx => zplaces x (List.mem_of_mem_tail hx)
      simp only [Place.v, storyV] at tk zk
      simp -dsimp [List.range_succ, nes8 n1, k0, k1, k2, f0, f1, f2, z1, z2, z3, nes, g1, y0, y1, y2, yn, Ne.symm y0, Ne.symm y1, Ne.symm y2, him, g2, x0, x1, x2, xi, Ne.symm x0, Ne.symm x1, Ne.symm x2, Ne.symm xi, hrm, hc, c1, c2, c3, htx, fullb, h8, e8, tk, zk]
      refine callL_ (vs := [(⟨⟨d.now.people, R⟩, (d.past ++ [d.now]).tail⟩ : Desk).v]) (hR2 _ _) (by simp -dsimp [nes8 n1, k0, k1, k2, f0, f1, f2, z1, z2, z3, nes, g1, y0, y1, y2, yn, Ne.symm y0, Ne.symm y1, Ne.symm y2, him, g2, x0, x1, x2, xi, Ne.symm x0, Ne.symm x1, Ne.symm x2, Ne.symm xi, hrm, hc, c1, c2, c3, List.map_tail, List.map_append]) ?_
      rintro t m2 n2 ⟨hn2, hout2, id2, st2, rfl, hj0, hj1, hjm, hst2, hne2⟩
      have q2 := hout2 2 (by omega)
      simp -dsimp [nes8 n1, k0, k1, k2, f0, f1, f2, z1, z2, z3, nes, g1, y0, y1, y2, yn, Ne.symm y0, Ne.symm y1, Ne.symm y2, him, g2, x0, x1, x2, xi, Ne.symm x0, Ne.symm x1, Ne.symm x2, Ne.symm xi, hrm] at q2
      have hc2 := hst2.cell
      have u2 : ¬ id2 = 2 := by omega
      rcases hst2 with ⟨rfl, hs2⟩ | ⟨r2, rfl, hr0, hr1, hrm2⟩
      · simp -dsimp [q2, hjm, u2, Ne.symm u2, hs2, htx, ek]
      · have u4 : ¬ r2 = 2 := by omega
        simp -dsimp [q2, hjm, hrm2, u2, u4, Ne.symm u2, Ne.symm u4, htx, ek]
    · have e8 : d.past.length < 8 := by omega
      have e8' : ¬ (8 : Int) < (d.past.length : Int) + 1 := by omega
      have e8'' : ¬ 8 < d.past.length + 1 := by omega
      have ek : keep8 (d.past ++ [d.now]) = d.past ++ [d.now] := by unfold keep8; rw [if_neg (by simp; omega)]
      have hR2 := hRs (d.past ++ [d.now]) ek
      simp -dsimp [List.range_succ, nes8 n1, k0, k1, k2, f0, f1, f2, z1, z2, z3, nes, g1, y0, y1, y2, yn, Ne.symm y0, Ne.symm y1, Ne.symm y2, him, g2, x0, x1, x2, xi, Ne.symm x0, Ne.symm x1, Ne.symm x2, Ne.symm xi, hrm, hc, c1, c2, c3, htx, fullb, h8, e8, e8', e8'']
      refine callL_ (vs := [(⟨⟨d.now.people, R⟩, d.past ++ [d.now]⟩ : Desk).v]) (hR2 _ _) (by simp -dsimp [nes8 n1, k0, k1, k2, f0, f1, f2, z1, z2, z3, nes, g1, y0, y1, y2, yn, Ne.symm y0, Ne.symm y1, Ne.symm y2, him, g2, x0, x1, x2, xi, Ne.symm x0, Ne.symm x1, Ne.symm x2, Ne.symm xi, hrm, hc, c1, c2, c3]) ?_
      rintro t m2 n2 ⟨hn2, hout2, id2, st2, rfl, hj0, hj1, hjm, hst2, hne2⟩
      have q2 := hout2 2 (by omega)
      simp -dsimp [nes8 n1, k0, k1, k2, f0, f1, f2, z1, z2, z3, nes, g1, y0, y1, y2, yn, Ne.symm y0, Ne.symm y1, Ne.symm y2, him, g2, x0, x1, x2, xi, Ne.symm x0, Ne.symm x1, Ne.symm x2, Ne.symm xi, hrm] at q2
      have hc2 := hst2.cell
      have u2 : ¬ id2 = 2 := by omega
      rcases hst2 with ⟨rfl, hs2⟩ | ⟨r2, rfl, hr0, hr1, hrm2⟩
      · simp -dsimp [q2, hjm, u2, Ne.symm u2, hs2, htx, ek]
      · have u4 : ¬ r2 = 2 := by omega
        simp -dsimp [q2, hjm, hrm2, u2, u4, Ne.symm u2, Ne.symm u4, htx, ek]
end TL

/- Deeds at a desk: the program. -/
set_option linter.unusedSimpArgs false
set_option linter.unusedVariables false
set_option maxRecDepth 100000
set_option maxHeartbeats 4000000
set_option pp.maxSteps 1500
namespace TL
open Go Go.Proofs
attribute [local simp] marksV storyV codeV Claim.v Place.v Deed.v Desk.v
theorem do_say (d : Desk) (words : List UInt8) (c : Claim) (hd : d.small) (hk : deskOk d = true) (X : Place) (hXl : X.story.length ≤ 7) (hr : readC d.now.people words = some c) (hwl : words.length ≤ 1000000000) (hX : X = ⟨d.now.people, d.now.story ++ [c]⟩) :
    FnZ Tryz.prog 6 [d.v, (⟨0, 0, words⟩ : Deed).v] (.tup [(if (placeOk X && !decide (placeTx X = placeTx d.now)) = true then ((⟨X, keep8 (d.past ++ [d.now])⟩, true) : Desk × Bool) else (d, false)).1.v, .bool (if (placeOk X && !decide (placeTx X = placeTx d.now)) = true then ((⟨X, keep8 (d.past ++ [d.now])⟩, true) : Desk × Bool) else (d, false)).2]) := by
  have hpo := placeOk_fn X (by omega)
  have hpt := placeText_fn X (by omega)
  have hpn := placeText_fn d.now (by have := hd.1.1; omega)
  have hcn := copyPlace_fn d.now hd.1
  have hok := deskOk_fn d (by have := hd.2.1; omega) (by have := hd.1.1; omega) (fun p hp => by have := (hd.2.2 p hp).1; omega)
  rw [hk] at hok
  obtain ⟨hpast, hnow, hp8⟩ := deskOk_iff.1 hk
  have hcopy := fun m n => copyDesk_own d hd m n
  have fullb : (d.past.length + 1) * 32 ≤ 140737488355328 := by omega
  have zplaces : allZ 2 (List.map Place.v d.past ++ [d.now.v]) := fun x hx => by
    rcases List.mem_append.1 hx with hx | hx
    · obtain ⟨p, _, rfl⟩ := List.mem_map.1 hx; exact ⟨by simp, by simp⟩
    · rw [List.mem_singleton.1 hx]; exact ⟨by simp, by simp⟩
  have hR : placeOk X = true → ∀ l, keep8 (d.past ++ [d.now]) = l → ∀ m n, FnS Tryz.prog 20 m n [.v (⟨X, l⟩ : Desk).v] (OwnDeskL ⟨X, l⟩ m n) := fun hX l hl m n => copyDesk_own ⟨X, l⟩ (desk_fine (deskOk_iff.2 ⟨fun p hp => by
    rw [← hl] at hp
    rcases List.mem_append.1 (keep8_mem hp) with h1 | h1
    · exact hpast p h1
    · rw [List.mem_singleton.1 h1]; exact hnow, hX, by rw [← hl]; exact keep8_len _ (by simp; omega)⟩)).1 m n
  have hrc := readClaim_fn d.now.people words (by omega)
  rw [hr] at hrc
  have b1 : (d.now.story.length + 1) * 32 ≤ 140737488355328 := by have := hd.1.1; omega
  have hkX := ft (placeOk X)
  have htx : placeTx X = placeTx d.now ∨ ¬ placeTx X = placeTx d.now := Classical.em _
  generalize placeTx X = tX at *
  generalize placeTx d.now = tN at *
  generalize placeOk X = okX at *
  subst hX
  refine FnZ_of (rs := [.cell 4 28, .tmp 5]) false Tryz.func6 rfl rfl rfl rfl (Nat.le_of_ble_eq_true rfl) ?_
  simp -dsimp
  refine call_ hok (by simp -dsimp) ?_
  simp -dsimp
  refine callL_ (vs := [d.v]) (hcopy _ _) (by simp -dsimp) ?_
  rintro t m1 n1 ⟨hn1, hout, id, st, rfl, hi0, hi1, him, hst, hne⟩
  have k0 := hout 0 (by omega)
  have k1 := hout 1 (by omega)
  have k2 := hout 2 (by omega)
  simp -dsimp at k0 k1 k2
  have f0 := far (show 0 < n1 by omega)
  have f1 := far (show 1 < n1 by omega)
  have f2 := far (show 2 < n1 by omega)
  have z1 : ¬ n1 = 0 := by omega
  have z2 : ¬ n1 = 1 := by omega
  have z3 : ¬ n1 = 2 := by omega
  have g1 := far hi1
  have y0 : ¬ id = 0 := by omega
  have y1 : ¬ id = 1 := by omega
  have y2 : ¬ id = 2 := by omega
  have yn : ¬ id = n1 := by omega
  have hc := hst.cell
  rcases hst with ⟨rfl, hs0⟩ | ⟨r, rfl, hr0, hr1, hrm⟩
  · have hp0 : d.past = [] := by simpa using hs0
    simp -dsimp [nes8 n1, k0, k1, k2, f0, f1, f2, z1, z2, z3, nes, g1, y0, y1, y2, yn, Ne.symm y0, Ne.symm y1, Ne.symm y2, him, hc, b1]
    refine twp_draw [0, 1, 2, 3, 4, 5, 1006, 7, 8, 9, 10, 11, 12] [1, n1] (List.replicate 13 [0, 1]) (List.replicate 13 [0, 1]) (by kernel_rfl) (by kernel_rfl) (by kernel_rfl) (by kernel_rfl) ?_
    simp -dsimp [List.range_succ, nes8 n1, k0, k1, k2, f0, f1, f2, z1, z2, z3, nes, g1, y0, y1, y2, yn, Ne.symm y0, Ne.symm y1, Ne.symm y2, him, hc, b1]
    refine pure_ hrc (by simp -dsimp [nes8 n1, k0, k1, k2, f0, f1, f2, z1, z2, z3, nes, g1, y0, y1, y2, yn, Ne.symm y0, Ne.symm y1, Ne.symm y2, him, hc, b1]) ?_
    simp -dsimp [List.range_succ, nes8 n1, k0, k1, k2, f0, f1, f2, z1, z2, z3, nes, g1, y0, y1, y2, yn, Ne.symm y0, Ne.symm y1, Ne.symm y2, him, hc, b1, optC]
    refine twp_draw (List.range 11) [n1, n1 + 1 + 1] (List.replicate 8 [0, 1] ++ [[], [], []]) (List.replicate 10 [0, 1] ++ [[1]]) (by kernel_rfl) (by kernel_rfl) (by kernel_rfl) (by kernel_rfl) ?_
    simp -dsimp [List.range_succ, nes8 n1, k0, k1, k2, f0, f1, f2, z1, z2, z3, nes, g1, y0, y1, y2, yn, Ne.symm y0, Ne.symm y1, Ne.symm y2, him, hc, b1, b1]
    refine twp_draw [0, 1, 2, 3, 4, 5, 6, 7, 8, 10, 11, 9, 12, 13, 14] [0, n1] (List.replicate 15 [0, 1]) (List.replicate 15 [0, 1]) (by kernel_rfl) (by kernel_rfl) (by kernel_rfl) (by kernel_rfl) ?_
    simp -dsimp [nes8 n1, k0, k1, k2, f0, f1, f2, z1, z2, z3, nes, g1, y0, y1, y2, yn, Ne.symm y0, Ne.symm y1, Ne.symm y2, him, hc, b1, hp0]
    refine call_ hpo (by simp -dsimp [nes8 n1, k0, k1, k2, f0, f1, f2, z1, z2, z3, nes, g1, y0, y1, y2, yn, Ne.symm y0, Ne.symm y1, Ne.symm y2, him, hc, b1, hp0]) ?_
    rcases hkX with rfl | rfl
    · simp -dsimp [nes8 n1, k0, k1, k2, f0, f1, f2, z1, z2, z3, nes, g1, y0, y1, y2, yn, Ne.symm y0, Ne.symm y1, Ne.symm y2, him, hc, b1, hp0]
      refine callL_ (vs := [d.v]) (hcopy _ _) (by simp -dsimp [hc, b1, hp0]) ?_
      rintro t m2 n2 ⟨hn2, hout2, id2, st2, rfl, hj0, hj1, hjm, hst2, hne2⟩
      have q2 := hout2 2 (by omega)
      simp -dsimp [nes8 n1, k0, k1, k2, f0, f1, f2, z1, z2, z3, nes, g1, y0, y1, y2, yn, Ne.symm y0, Ne.symm y1, Ne.symm y2, him] at q2
      have hc2 := hst2.cell
      have u2 : ¬ id2 = 2 := by omega
      rcases hst2 with ⟨rfl, hs2⟩ | ⟨r2, rfl, hr0, hr1, hrm2⟩
      · simp -dsimp [q2, hjm, u2, Ne.symm u2, hs2]
      · have u4 : ¬ r2 = 2 := by omega
        simp -dsimp [q2, hjm, hrm2, u2, u4, Ne.symm u2, Ne.symm u4]
    simp -dsimp [nes8 n1, k0, k1, k2, f0, f1, f2, z1, z2, z3, nes, g1, y0, y1, y2, yn, Ne.symm y0, Ne.symm y1, Ne.symm y2, him, hc, b1, hp0]
    refine call_ hpt (by simp -dsimp [nes8 n1, k0, k1, k2, f0, f1, f2, z1, z2, z3, nes, g1, y0, y1, y2, yn, Ne.symm y0, Ne.symm y1, Ne.symm y2, him, hc, b1, hp0]) ?_
    simp -dsimp [nes8 n1, k0, k1, k2, f0, f1, f2, z1, z2, z3, nes, g1, y0, y1, y2, yn, Ne.symm y0, Ne.symm y1, Ne.symm y2, him, hc, b1, hp0]
    refine call_ hpn (by simp -dsimp) ?_
    rcases htx with rfl | htx
    · simp -dsimp [nes8 n1, k0, k1, k2, f0, f1, f2, z1, z2, z3, nes, g1, y0, y1, y2, yn, Ne.symm y0, Ne.symm y1, Ne.symm y2, him, hc, b1, hp0]
      refine callL_ (vs := [d.v]) (hcopy _ _) (by simp -dsimp [hc, b1, hp0]) ?_
      rintro t m2 n2 ⟨hn2, hout2, id2, st2, rfl, hj0, hj1, hjm, hst2, hne2⟩
      have q2 := hout2 2 (by omega)
      simp -dsimp [nes8 n1, k0, k1, k2, f0, f1, f2, z1, z2, z3, nes, g1, y0, y1, y2, yn, Ne.symm y0, Ne.symm y1, Ne.symm y2, him] at q2
      have hc2 := hst2.cell
      have u2 : ¬ id2 = 2 := by omega
      rcases hst2 with ⟨rfl, hs2⟩ | ⟨r2, rfl, hr0, hr1, hrm2⟩
      · simp -dsimp [q2, hjm, u2, Ne.symm u2, hs2]
      · have u4 : ¬ r2 = 2 := by omega
        simp -dsimp [q2, hjm, hrm2, u2, u4, Ne.symm u2, Ne.symm u4]
    have hRs := hR rfl
    simp -dsimp [nes8 n1, k0, k1, k2, f0, f1, f2, z1, z2, z3, nes, g1, y0, y1, y2, yn, Ne.symm y0, Ne.symm y1, Ne.symm y2, him, hc, b1, hp0, htx]
    refine twp_draw (List.range 9) [0, n1] (List.replicate 9 [0, 1]) (List.replicate 8 [0, 1] ++ [[0]]) (by kernel_rfl) (by kernel_rfl) (by kernel_rfl) (by kernel_rfl) ?_
    simp -dsimp [List.range_succ, nes8 n1, k0, k1, k2, f0, f1, f2, z1, z2, z3, nes, g1, y0, y1, y2, yn, Ne.symm y0, Ne.symm y1, Ne.symm y2, him, hc, b1, hp0, htx]
    refine call_ hcn (by simp -dsimp) ?_
    have hR2 := hRs [d.now] (by rw [hp0]; rfl)
    simp -dsimp [List.range_succ, nes8 n1, k0, k1, k2, f0, f1, f2, z1, z2, z3, nes, g1, y0, y1, y2, yn, Ne.symm y0, Ne.symm y1, Ne.symm y2, him, hc, b1, hp0, htx]
    refine callL_ (vs := [(⟨⟨d.now.people, d.now.story ++ [c]⟩, [d.now]⟩ : Desk).v]) (hR2 _ _) (by simp -dsimp [nes8 n1, k0, k1, k2, f0, f1, f2, z1, z2, z3, nes, g1, y0, y1, y2, yn, Ne.symm y0, Ne.symm y1, Ne.symm y2, him, hc, b1, hp0]) ?_
    rintro t m2 n2 ⟨hn2, hout2, id2, st2, rfl, hj0, hj1, hjm, hst2, hne2⟩
    have q2 := hout2 2 (by omega)
    simp -dsimp [nes8 n1, k0, k1, k2, f0, f1, f2, z1, z2, z3, nes, g1, y0, y1, y2, yn, Ne.symm y0, Ne.symm y1, Ne.symm y2, him] at q2
    have hc2 := hst2.cell
    have u2 : ¬ id2 = 2 := by omega
    rcases hst2 with ⟨rfl, hs2⟩ | ⟨r2, rfl, hr0, hr1, hrm2⟩
    · simp -dsimp [q2, hjm, u2, Ne.symm u2, hs2, htx, hp0, keep8]
    · have u4 : ¬ r2 = 2 := by omega
      simp -dsimp [q2, hjm, hrm2, u2, u4, Ne.symm u2, Ne.symm u4, htx, hp0, keep8]
  · have g2 := far hr1
    have x0 : ¬ r = 0 := by omega
    have x1 : ¬ r = 1 := by omega
    have x2 : ¬ r = 2 := by omega
    have xi : ¬ r = id := fun h => hne (by rw [h])
    simp -dsimp [nes8 n1, k0, k1, k2, f0, f1, f2, z1, z2, z3, nes, g1, y0, y1, y2, yn, Ne.symm y0, Ne.symm y1, Ne.symm y2, him, g2, x0, x1, x2, xi, Ne.symm x0, Ne.symm x1, Ne.symm x2, Ne.symm xi, hrm, hc, b1]
    refine twp_draw [0, 1, 2, 3, 4, 5, 1006, 7, 8, 9, 10, 11, 12] [1, n1] (List.replicate 13 [0, 1]) (List.replicate 13 [0, 1]) (by kernel_rfl) (by kernel_rfl) (by kernel_rfl) (by kernel_rfl) ?_
    simp -dsimp [List.range_succ, nes8 n1, k0, k1, k2, f0, f1, f2, z1, z2, z3, nes, g1, y0, y1, y2, yn, Ne.symm y0, Ne.symm y1, Ne.symm y2, him, g2, x0, x1, x2, xi, Ne.symm x0, Ne.symm x1, Ne.symm x2, Ne.symm xi, hrm, hc, b1]
    refine pure_ hrc (by simp -dsimp [nes8 n1, k0, k1, k2, f0, f1, f2, z1, z2, z3, nes, g1, y0, y1, y2, yn, Ne.symm y0, Ne.symm y1, Ne.symm y2, him, g2, x0, x1, x2, xi, Ne.symm x0, Ne.symm x1, Ne.symm x2, Ne.symm xi, hrm, hc, b1]) ?_
    simp -dsimp [List.range_succ, nes8 n1, k0, k1, k2, f0, f1, f2, z1, z2, z3, nes, g1, y0, y1, y2, yn, Ne.symm y0, Ne.symm y1, Ne.symm y2, him, g2, x0, x1, x2, xi, Ne.symm x0, Ne.symm x1, Ne.symm x2, Ne.symm xi, hrm, hc, b1, optC]
    refine twp_draw (List.range 11) [n1, n1 + 1 + 1] (List.replicate 8 [0, 1] ++ [[], [], []]) (List.replicate 10 [0, 1] ++ [[1]]) (by kernel_rfl) (by kernel_rfl) (by kernel_rfl) (by kernel_rfl) ?_
    simp -dsimp [List.range_succ, nes8 n1, k0, k1, k2, f0, f1, f2, z1, z2, z3, nes, g1, y0, y1, y2, yn, Ne.symm y0, Ne.symm y1, Ne.symm y2, him, g2, x0, x1, x2, xi, Ne.symm x0, Ne.symm x1, Ne.symm x2, Ne.symm xi, hrm, hc, b1, b1]
    refine twp_draw [0, 1, 2, 3, 4, 5, 6, 7, 8, 10, 11, 9, 12, 13, 14] [0, n1] (List.replicate 15 [0, 1]) (List.replicate 15 [0, 1]) (by kernel_rfl) (by kernel_rfl) (by kernel_rfl) (by kernel_rfl) ?_
    simp -dsimp [nes8 n1, k0, k1, k2, f0, f1, f2, z1, z2, z3, nes, g1, y0, y1, y2, yn, Ne.symm y0, Ne.symm y1, Ne.symm y2, him, g2, x0, x1, x2, xi, Ne.symm x0, Ne.symm x1, Ne.symm x2, Ne.symm xi, hrm, hc, b1]
    refine call_ hpo (by simp -dsimp [nes8 n1, k0, k1, k2, f0, f1, f2, z1, z2, z3, nes, g1, y0, y1, y2, yn, Ne.symm y0, Ne.symm y1, Ne.symm y2, him, g2, x0, x1, x2, xi, Ne.symm x0, Ne.symm x1, Ne.symm x2, Ne.symm xi, hrm, hc, b1]) ?_
    rcases hkX with rfl | rfl
    · simp -dsimp [nes8 n1, k0, k1, k2, f0, f1, f2, z1, z2, z3, nes, g1, y0, y1, y2, yn, Ne.symm y0, Ne.symm y1, Ne.symm y2, him, g2, x0, x1, x2, xi, Ne.symm x0, Ne.symm x1, Ne.symm x2, Ne.symm xi, hrm, hc, b1]
      refine callL_ (vs := [d.v]) (hcopy _ _) (by simp -dsimp [hc, b1]) ?_
      rintro t m2 n2 ⟨hn2, hout2, id2, st2, rfl, hj0, hj1, hjm, hst2, hne2⟩
      have q2 := hout2 2 (by omega)
      simp -dsimp [nes8 n1, k0, k1, k2, f0, f1, f2, z1, z2, z3, nes, g1, y0, y1, y2, yn, Ne.symm y0, Ne.symm y1, Ne.symm y2, him, g2, x0, x1, x2, xi, Ne.symm x0, Ne.symm x1, Ne.symm x2, Ne.symm xi, hrm] at q2
      have hc2 := hst2.cell
      have u2 : ¬ id2 = 2 := by omega
      rcases hst2 with ⟨rfl, hs2⟩ | ⟨r2, rfl, hr0, hr1, hrm2⟩
      · simp -dsimp [q2, hjm, u2, Ne.symm u2, hs2]
      · have u4 : ¬ r2 = 2 := by omega
        simp -dsimp [q2, hjm, hrm2, u2, u4, Ne.symm u2, Ne.symm u4]
    simp -dsimp [nes8 n1, k0, k1, k2, f0, f1, f2, z1, z2, z3, nes, g1, y0, y1, y2, yn, Ne.symm y0, Ne.symm y1, Ne.symm y2, him, g2, x0, x1, x2, xi, Ne.symm x0, Ne.symm x1, Ne.symm x2, Ne.symm xi, hrm, hc, b1]
    refine call_ hpt (by simp -dsimp [nes8 n1, k0, k1, k2, f0, f1, f2, z1, z2, z3, nes, g1, y0, y1, y2, yn, Ne.symm y0, Ne.symm y1, Ne.symm y2, him, g2, x0, x1, x2, xi, Ne.symm x0, Ne.symm x1, Ne.symm x2, Ne.symm xi, hrm, hc, b1]) ?_
    simp -dsimp [nes8 n1, k0, k1, k2, f0, f1, f2, z1, z2, z3, nes, g1, y0, y1, y2, yn, Ne.symm y0, Ne.symm y1, Ne.symm y2, him, g2, x0, x1, x2, xi, Ne.symm x0, Ne.symm x1, Ne.symm x2, Ne.symm xi, hrm, hc, b1]
    refine call_ hpn (by simp -dsimp) ?_
    rcases htx with rfl | htx
    · simp -dsimp [nes8 n1, k0, k1, k2, f0, f1, f2, z1, z2, z3, nes, g1, y0, y1, y2, yn, Ne.symm y0, Ne.symm y1, Ne.symm y2, him, g2, x0, x1, x2, xi, Ne.symm x0, Ne.symm x1, Ne.symm x2, Ne.symm xi, hrm, hc, b1]
      refine callL_ (vs := [d.v]) (hcopy _ _) (by simp -dsimp [hc, b1]) ?_
      rintro t m2 n2 ⟨hn2, hout2, id2, st2, rfl, hj0, hj1, hjm, hst2, hne2⟩
      have q2 := hout2 2 (by omega)
      simp -dsimp [nes8 n1, k0, k1, k2, f0, f1, f2, z1, z2, z3, nes, g1, y0, y1, y2, yn, Ne.symm y0, Ne.symm y1, Ne.symm y2, him, g2, x0, x1, x2, xi, Ne.symm x0, Ne.symm x1, Ne.symm x2, Ne.symm xi, hrm] at q2
      have hc2 := hst2.cell
      have u2 : ¬ id2 = 2 := by omega
      rcases hst2 with ⟨rfl, hs2⟩ | ⟨r2, rfl, hr0, hr1, hrm2⟩
      · simp -dsimp [q2, hjm, u2, Ne.symm u2, hs2]
      · have u4 : ¬ r2 = 2 := by omega
        simp -dsimp [q2, hjm, hrm2, u2, u4, Ne.symm u2, Ne.symm u4]
    have hRs := hR rfl
    simp -dsimp [nes8 n1, k0, k1, k2, f0, f1, f2, z1, z2, z3, nes, g1, y0, y1, y2, yn, Ne.symm y0, Ne.symm y1, Ne.symm y2, him, g2, x0, x1, x2, xi, Ne.symm x0, Ne.symm x1, Ne.symm x2, Ne.symm xi, hrm, hc, b1, htx]
    refine twp_draw (List.range 9) [0, n1] (List.replicate 9 [0, 1]) (List.replicate 8 [0, 1] ++ [[0]]) (by kernel_rfl) (by kernel_rfl) (by kernel_rfl) (by kernel_rfl) ?_
    simp -dsimp [List.range_succ, nes8 n1, k0, k1, k2, f0, f1, f2, z1, z2, z3, nes, g1, y0, y1, y2, yn, Ne.symm y0, Ne.symm y1, Ne.symm y2, him, g2, x0, x1, x2, xi, Ne.symm x0, Ne.symm x1, Ne.symm x2, Ne.symm xi, hrm, hc, b1, htx]
    refine call_ hcn (by simp -dsimp) ?_
    by_cases h8 : d.past.length = 8
    · have e8 : (d.past.length : Int) = 8 := by omega
      have ek : keep8 (d.past ++ [d.now]) = (d.past ++ [d.now]).tail := by unfold keep8; rw [if_pos (by simp [h8])]; simp
      have hR2 := hRs (d.past ++ [d.now]).tail ek
      have tk : List.take 9 (List.map Place.v d.past ++ [d.now.v]) = List.map Place.v d.past ++ [d.now.v] := List.take_of_length_le (by simp [h8])
      have zk : allZ 2 (List.map Place.v d.past ++ [d.now.v]).tail := fun x hx => zplaces x (List.mem_of_mem_tail hx)
      simp only [Place.v, storyV] at tk zk
      simp -dsimp [List.range_succ, nes8 n1, k0, k1, k2, f0, f1, f2, z1, z2, z3, nes, g1, y0, y1, y2, yn, Ne.symm y0, Ne.symm y1, Ne.symm y2, him, g2, x0, x1, x2, xi, Ne.symm x0, Ne.symm x1, Ne.symm x2, Ne.symm xi, hrm, hc, b1, htx, fullb, h8, e8, tk, zk]
      refine callL_ (vs := [(⟨⟨d.now.people, d.now.story ++ [c]⟩, (d.past ++ [d.now]).tail⟩ : Desk).v]) (hR2 _ _) (by simp -dsimp [nes8 n1, k0, k1, k2, f0, f1, f2, z1, z2, z3, nes, g1, y0, y1, y2, yn, Ne.symm y0, Ne.symm y1, Ne.symm y2, him, g2, x0, x1, x2, xi, Ne.symm x0, Ne.symm x1, Ne.symm x2, Ne.symm xi, hrm, hc, b1, List.map_tail, List.map_append]) ?_
      rintro t m2 n2 ⟨hn2, hout2, id2, st2, rfl, hj0, hj1, hjm, hst2, hne2⟩
      have q2 := hout2 2 (by omega)
      simp -dsimp [nes8 n1, k0, k1, k2, f0, f1, f2, z1, z2, z3, nes, g1, y0, y1, y2, yn, Ne.symm y0, Ne.symm y1, Ne.symm y2, him, g2, x0, x1, x2, xi, Ne.symm x0, Ne.symm x1, Ne.symm x2, Ne.symm xi, hrm] at q2
      have hc2 := hst2.cell
      have u2 : ¬ id2 = 2 := by omega
      rcases hst2 with ⟨rfl, hs2⟩ | ⟨r2, rfl, hr0, hr1, hrm2⟩
      · simp -dsimp [q2, hjm, u2, Ne.symm u2, hs2, htx, ek]
      · have u4 : ¬ r2 = 2 := by omega
        simp -dsimp [q2, hjm, hrm2, u2, u4, Ne.symm u2, Ne.symm u4, htx, ek]
    · have e8 : d.past.length < 8 := by omega
      have e8' : ¬ (8 : Int) < (d.past.length : Int) + 1 := by omega
      have e8'' : ¬ 8 < d.past.length + 1 := by omega
      have ek : keep8 (d.past ++ [d.now]) = d.past ++ [d.now] := by unfold keep8; rw [if_neg (by simp; omega)]
      have hR2 := hRs (d.past ++ [d.now]) ek
      simp -dsimp [List.range_succ, nes8 n1, k0, k1, k2, f0, f1, f2, z1, z2, z3, nes, g1, y0, y1, y2, yn, Ne.symm y0, Ne.symm y1, Ne.symm y2, him, g2, x0, x1, x2, xi, Ne.symm x0, Ne.symm x1, Ne.symm x2, Ne.symm xi, hrm, hc, b1, htx, fullb, h8, e8, e8', e8'']
      refine callL_ (vs := [(⟨⟨d.now.people, d.now.story ++ [c]⟩, d.past ++ [d.now]⟩ : Desk).v]) (hR2 _ _) (by simp -dsimp [nes8 n1, k0, k1, k2, f0, f1, f2, z1, z2, z3, nes, g1, y0, y1, y2, yn, Ne.symm y0, Ne.symm y1, Ne.symm y2, him, g2, x0, x1, x2, xi, Ne.symm x0, Ne.symm x1, Ne.symm x2, Ne.symm xi, hrm, hc, b1]) ?_
      rintro t m2 n2 ⟨hn2, hout2, id2, st2, rfl, hj0, hj1, hjm, hst2, hne2⟩
      have q2 := hout2 2 (by omega)
      simp -dsimp [nes8 n1, k0, k1, k2, f0, f1, f2, z1, z2, z3, nes, g1, y0, y1, y2, yn, Ne.symm y0, Ne.symm y1, Ne.symm y2, him, g2, x0, x1, x2, xi, Ne.symm x0, Ne.symm x1, Ne.symm x2, Ne.symm xi, hrm] at q2
      have hc2 := hst2.cell
      have u2 : ¬ id2 = 2 := by omega
      rcases hst2 with ⟨rfl, hs2⟩ | ⟨r2, rfl, hr0, hr1, hrm2⟩
      · simp -dsimp [q2, hjm, u2, Ne.symm u2, hs2, htx, ek]
      · have u4 : ¬ r2 = 2 := by omega
        simp -dsimp [q2, hjm, hrm2, u2, u4, Ne.symm u2, Ne.symm u4, htx, ek]
end TL

/- Deeds at a desk: the program. -/
set_option linter.unusedSimpArgs false
set_option linter.unusedVariables false
set_option maxRecDepth 100000
set_option maxHeartbeats 4000000
set_option pp.maxSteps 1500
namespace TL
open Go Go.Proofs
attribute [local simp] marksV storyV codeV Claim.v Place.v Deed.v Desk.v
theorem do_bad1 (d : Desk) (kind num : Int) (words : List UInt8) (hd : d.small) (hk : deskOk d = true) (h0 : ¬ kind = 0) (hw : ¬ words = []) : FnZ Tryz.prog 6 [d.v, (⟨kind, num, words⟩ : Deed).v] (.tup [d.v, .bool false]) := by
  have hok := deskOk_fn d (by have := hd.2.1; omega) (by have := hd.1.1; omega) (fun p hp => by have := (hd.2.2 p hp).1; omega)
  rw [hk] at hok
  have hcopy := fun m n => copyDesk_own d hd m n
  refine FnZ_of (rs := [.cell 4 28, .tmp 5]) false Tryz.func6 rfl rfl rfl rfl (Nat.le_of_ble_eq_true rfl) ?_
  simp -dsimp
  refine call_ hok (by simp -dsimp) ?_
  simp -dsimp
  refine callL_ (vs := [d.v]) (hcopy _ _) (by simp -dsimp) ?_
  rintro t m1 n1 ⟨hn1, hout, id, st, rfl, hi0, hi1, him, hst, hne⟩
  have k0 := hout 0 (by omega)
  have k1 := hout 1 (by omega)
  have k2 := hout 2 (by omega)
  simp -dsimp at k0 k1 k2
  have f0 := far (show 0 < n1 by omega)
  have f1 := far (show 1 < n1 by omega)
  have f2 := far (show 2 < n1 by omega)
  have z1 : ¬ n1 = 0 := by omega
  have z2 : ¬ n1 = 1 := by omega
  have z3 : ¬ n1 = 2 := by omega
  have g1 := far hi1
  have y0 : ¬ id = 0 := by omega
  have y1 : ¬ id = 1 := by omega
  have y2 : ¬ id = 2 := by omega
  have yn : ¬ id = n1 := by omega
  have hc := hst.cell
  rcases hst with ⟨rfl, hs0⟩ | ⟨r, rfl, hr0, hr1, hrm⟩
  · have hp0 : d.past = [] := by simpa using hs0
    simp -dsimp [nes8 n1, k0, k1, k2, f0, f1, f2, z1, z2, z3, nes, g1, y0, y1, y2, yn, Ne.symm y0, Ne.symm y1, Ne.symm y2, him, h0, hw, hp0]
  · have g2 := far hr1
    have x0 : ¬ r = 0 := by omega
    have x1 : ¬ r = 1 := by omega
    have x2 : ¬ r = 2 := by omega
    have xi : ¬ r = id := fun h => hne (by rw [h])
    simp -dsimp [nes8 n1, k0, k1, k2, f0, f1, f2, z1, z2, z3, nes, g1, y0, y1, y2, yn, Ne.symm y0, Ne.symm y1, Ne.symm y2, him, g2, x0, x1, x2, xi, Ne.symm x0, Ne.symm x1, Ne.symm x2, Ne.symm xi, hrm, h0, hw]
theorem do_bad2 (d : Desk) (num : Int) (words : List UInt8) (hd : d.small) (hk : deskOk d = true) (h0 : ¬ num = 0) : FnZ Tryz.prog 6 [d.v, (⟨0, num, words⟩ : Deed).v] (.tup [d.v, .bool false]) := by
  have hok := deskOk_fn d (by have := hd.2.1; omega) (by have := hd.1.1; omega) (fun p hp => by have := (hd.2.2 p hp).1; omega)
  rw [hk] at hok
  have hcopy := fun m n => copyDesk_own d hd m n
  refine FnZ_of (rs := [.cell 4 28, .tmp 5]) false Tryz.func6 rfl rfl rfl rfl (Nat.le_of_ble_eq_true rfl) ?_
  simp -dsimp
  refine call_ hok (by simp -dsimp) ?_
  simp -dsimp
  refine callL_ (vs := [d.v]) (hcopy _ _) (by simp -dsimp) ?_
  rintro t m1 n1 ⟨hn1, hout, id, st, rfl, hi0, hi1, him, hst, hne⟩
  have k0 := hout 0 (by omega)
  have k1 := hout 1 (by omega)
  have k2 := hout 2 (by omega)
  simp -dsimp at k0 k1 k2
  have f0 := far (show 0 < n1 by omega)
  have f1 := far (show 1 < n1 by omega)
  have f2 := far (show 2 < n1 by omega)
  have z1 : ¬ n1 = 0 := by omega
  have z2 : ¬ n1 = 1 := by omega
  have z3 : ¬ n1 = 2 := by omega
  have g1 := far hi1
  have y0 : ¬ id = 0 := by omega
  have y1 : ¬ id = 1 := by omega
  have y2 : ¬ id = 2 := by omega
  have yn : ¬ id = n1 := by omega
  have hc := hst.cell
  rcases hst with ⟨rfl, hs0⟩ | ⟨r, rfl, hr0, hr1, hrm⟩
  · have hp0 : d.past = [] := by simpa using hs0
    simp -dsimp [nes8 n1, k0, k1, k2, f0, f1, f2, z1, z2, z3, nes, g1, y0, y1, y2, yn, Ne.symm y0, Ne.symm y1, Ne.symm y2, him, h0, hp0]
  · have g2 := far hr1
    have x0 : ¬ r = 0 := by omega
    have x1 : ¬ r = 1 := by omega
    have x2 : ¬ r = 2 := by omega
    have xi : ¬ r = id := fun h => hne (by rw [h])
    simp -dsimp [nes8 n1, k0, k1, k2, f0, f1, f2, z1, z2, z3, nes, g1, y0, y1, y2, yn, Ne.symm y0, Ne.symm y1, Ne.symm y2, him, g2, x0, x1, x2, xi, Ne.symm x0, Ne.symm x1, Ne.symm x2, Ne.symm xi, hrm, h0]
theorem do_bad3 (d : Desk) (kind num : Int) (hd : d.small) (hk : deskOk d = true) (h0 : ¬ kind = 0) (h1 : ¬ kind = 1) (h2 : ¬ kind = 2) (h3 : ¬ num = 0) : FnZ Tryz.prog 6 [d.v, (⟨kind, num, []⟩ : Deed).v] (.tup [d.v, .bool false]) := by
  have hok := deskOk_fn d (by have := hd.2.1; omega) (by have := hd.1.1; omega) (fun p hp => by have := (hd.2.2 p hp).1; omega)
  rw [hk] at hok
  have hcopy := fun m n => copyDesk_own d hd m n
  refine FnZ_of (rs := [.cell 4 28, .tmp 5]) false Tryz.func6 rfl rfl rfl rfl (Nat.le_of_ble_eq_true rfl) ?_
  simp -dsimp
  refine call_ hok (by simp -dsimp) ?_
  simp -dsimp
  refine callL_ (vs := [d.v]) (hcopy _ _) (by simp -dsimp) ?_
  rintro t m1 n1 ⟨hn1, hout, id, st, rfl, hi0, hi1, him, hst, hne⟩
  have k0 := hout 0 (by omega)
  have k1 := hout 1 (by omega)
  have k2 := hout 2 (by omega)
  simp -dsimp at k0 k1 k2
  have f0 := far (show 0 < n1 by omega)
  have f1 := far (show 1 < n1 by omega)
  have f2 := far (show 2 < n1 by omega)
  have z1 : ¬ n1 = 0 := by omega
  have z2 : ¬ n1 = 1 := by omega
  have z3 : ¬ n1 = 2 := by omega
  have g1 := far hi1
  have y0 : ¬ id = 0 := by omega
  have y1 : ¬ id = 1 := by omega
  have y2 : ¬ id = 2 := by omega
  have yn : ¬ id = n1 := by omega
  have hc := hst.cell
  rcases hst with ⟨rfl, hs0⟩ | ⟨r, rfl, hr0, hr1, hrm⟩
  · have hp0 : d.past = [] := by simpa using hs0
    simp -dsimp [nes8 n1, k0, k1, k2, f0, f1, f2, z1, z2, z3, nes, g1, y0, y1, y2, yn, Ne.symm y0, Ne.symm y1, Ne.symm y2, him, h0, h1, h2, h3, hp0]
  · have g2 := far hr1
    have x0 : ¬ r = 0 := by omega
    have x1 : ¬ r = 1 := by omega
    have x2 : ¬ r = 2 := by omega
    have xi : ¬ r = id := fun h => hne (by rw [h])
    simp -dsimp [nes8 n1, k0, k1, k2, f0, f1, f2, z1, z2, z3, nes, g1, y0, y1, y2, yn, Ne.symm y0, Ne.symm y1, Ne.symm y2, him, g2, x0, x1, x2, xi, Ne.symm x0, Ne.symm x1, Ne.symm x2, Ne.symm xi, hrm, h0, h1, h2, h3]
theorem do_other (d : Desk) (kind : Int) (hd : d.small) (hk : deskOk d = true) (h0 : ¬ kind = 0) (h1 : ¬ kind = 1) (h2 : ¬ kind = 2) (h3 : ¬ kind = 3) (h4 : ¬ kind = 4) : FnZ Tryz.prog 6 [d.v, (⟨kind, 0, []⟩ : Deed).v] (.tup [d.v, .bool false]) := by
  have hok := deskOk_fn d (by have := hd.2.1; omega) (by have := hd.1.1; omega) (fun p hp => by have := (hd.2.2 p hp).1; omega)
  rw [hk] at hok
  have hcopy := fun m n => copyDesk_own d hd m n
  refine FnZ_of (rs := [.cell 4 28, .tmp 5]) false Tryz.func6 rfl rfl rfl rfl (Nat.le_of_ble_eq_true rfl) ?_
  simp -dsimp
  refine call_ hok (by simp -dsimp) ?_
  simp -dsimp
  refine callL_ (vs := [d.v]) (hcopy _ _) (by simp -dsimp) ?_
  rintro t m1 n1 ⟨hn1, hout, id, st, rfl, hi0, hi1, him, hst, hne⟩
  have k0 := hout 0 (by omega)
  have k1 := hout 1 (by omega)
  have k2 := hout 2 (by omega)
  simp -dsimp at k0 k1 k2
  have f0 := far (show 0 < n1 by omega)
  have f1 := far (show 1 < n1 by omega)
  have f2 := far (show 2 < n1 by omega)
  have z1 : ¬ n1 = 0 := by omega
  have z2 : ¬ n1 = 1 := by omega
  have z3 : ¬ n1 = 2 := by omega
  have g1 := far hi1
  have y0 : ¬ id = 0 := by omega
  have y1 : ¬ id = 1 := by omega
  have y2 : ¬ id = 2 := by omega
  have yn : ¬ id = n1 := by omega
  have hc := hst.cell
  rcases hst with ⟨rfl, hs0⟩ | ⟨r, rfl, hr0, hr1, hrm⟩
  · have hp0 : d.past = [] := by simpa using hs0
    simp -dsimp [nes8 n1, k0, k1, k2, f0, f1, f2, z1, z2, z3, nes, g1, y0, y1, y2, yn, Ne.symm y0, Ne.symm y1, Ne.symm y2, him, h0, h1, h2, h3, h4, hp0]
  · have g2 := far hr1
    have x0 : ¬ r = 0 := by omega
    have x1 : ¬ r = 1 := by omega
    have x2 : ¬ r = 2 := by omega
    have xi : ¬ r = id := fun h => hne (by rw [h])
    simp -dsimp [nes8 n1, k0, k1, k2, f0, f1, f2, z1, z2, z3, nes, g1, y0, y1, y2, yn, Ne.symm y0, Ne.symm y1, Ne.symm y2, him, g2, x0, x1, x2, xi, Ne.symm x0, Ne.symm x1, Ne.symm x2, Ne.symm xi, hrm, h0, h1, h2, h3, h4]
theorem do_nosay (d : Desk) (words : List UInt8) (hd : d.small) (hk : deskOk d = true) (hr : readC d.now.people words = none) (hwl : words.length ≤ 1000000000) : FnZ Tryz.prog 6 [d.v, (⟨0, 0, words⟩ : Deed).v] (.tup [d.v, .bool false]) := by
  have hok := deskOk_fn d (by have := hd.2.1; omega) (by have := hd.1.1; omega) (fun p hp => by have := (hd.2.2 p hp).1; omega)
  rw [hk] at hok
  have hcopy := fun m n => copyDesk_own d hd m n
  have hrc := readClaim_fn d.now.people words (by omega)
  rw [hr] at hrc
  refine FnZ_of (rs := [.cell 4 28, .tmp 5]) false Tryz.func6 rfl rfl rfl rfl (Nat.le_of_ble_eq_true rfl) ?_
  simp -dsimp
  refine call_ hok (by simp -dsimp) ?_
  simp -dsimp
  refine callL_ (vs := [d.v]) (hcopy _ _) (by simp -dsimp) ?_
  rintro t m1 n1 ⟨hn1, hout, id, st, rfl, hi0, hi1, him, hst, hne⟩
  have k0 := hout 0 (by omega)
  have k1 := hout 1 (by omega)
  have k2 := hout 2 (by omega)
  simp -dsimp at k0 k1 k2
  have f0 := far (show 0 < n1 by omega)
  have f1 := far (show 1 < n1 by omega)
  have f2 := far (show 2 < n1 by omega)
  have z1 : ¬ n1 = 0 := by omega
  have z2 : ¬ n1 = 1 := by omega
  have z3 : ¬ n1 = 2 := by omega
  have g1 := far hi1
  have y0 : ¬ id = 0 := by omega
  have y1 : ¬ id = 1 := by omega
  have y2 : ¬ id = 2 := by omega
  have yn : ¬ id = n1 := by omega
  have hc := hst.cell
  rcases hst with ⟨rfl, hs0⟩ | ⟨r, rfl, hr0, hr1, hrm⟩
  · have hp0 : d.past = [] := by simpa using hs0
    simp -dsimp [nes8 n1, k0, k1, k2, f0, f1, f2, z1, z2, z3, nes, g1, y0, y1, y2, yn, Ne.symm y0, Ne.symm y1, Ne.symm y2, him, hp0, hc]
    refine twp_draw [0, 1, 2, 3, 4, 5, 1006, 7, 8, 9, 10, 11, 12] [1, n1] (List.replicate 13 [0, 1]) (List.replicate 13 [0, 1]) (by kernel_rfl) (by kernel_rfl) (by kernel_rfl) (by kernel_rfl) ?_
    simp -dsimp [List.range_succ, nes8 n1, k0, k1, k2, f0, f1, f2, z1, z2, z3, nes, g1, y0, y1, y2, yn, Ne.symm y0, Ne.symm y1, Ne.symm y2, him, hp0, hc]
    refine pure_ hrc (by simp -dsimp [nes8 n1, k0, k1, k2, f0, f1, f2, z1, z2, z3, nes, g1, y0, y1, y2, yn, Ne.symm y0, Ne.symm y1, Ne.symm y2, him, hp0, hc]) ?_
    simp -dsimp [List.range_succ, nes8 n1, k0, k1, k2, f0, f1, f2, z1, z2, z3, nes, g1, y0, y1, y2, yn, Ne.symm y0, Ne.symm y1, Ne.symm y2, him, hp0, hc, optC]

  · have g2 := far hr1
    have x0 : ¬ r = 0 := by omega
    have x1 : ¬ r = 1 := by omega
    have x2 : ¬ r = 2 := by omega
    have xi : ¬ r = id := fun h => hne (by rw [h])
    simp -dsimp [nes8 n1, k0, k1, k2, f0, f1, f2, z1, z2, z3, nes, g1, y0, y1, y2, yn, Ne.symm y0, Ne.symm y1, Ne.symm y2, him, g2, x0, x1, x2, xi, Ne.symm x0, Ne.symm x1, Ne.symm x2, Ne.symm xi, hrm, hc]
    refine twp_draw [0, 1, 2, 3, 4, 5, 1006, 7, 8, 9, 10, 11, 12] [1, n1] (List.replicate 13 [0, 1]) (List.replicate 13 [0, 1]) (by kernel_rfl) (by kernel_rfl) (by kernel_rfl) (by kernel_rfl) ?_
    simp -dsimp [List.range_succ, nes8 n1, k0, k1, k2, f0, f1, f2, z1, z2, z3, nes, g1, y0, y1, y2, yn, Ne.symm y0, Ne.symm y1, Ne.symm y2, him, g2, x0, x1, x2, xi, Ne.symm x0, Ne.symm x1, Ne.symm x2, Ne.symm xi, hrm, hc]
    refine pure_ hrc (by simp -dsimp [nes8 n1, k0, k1, k2, f0, f1, f2, z1, z2, z3, nes, g1, y0, y1, y2, yn, Ne.symm y0, Ne.symm y1, Ne.symm y2, him, g2, x0, x1, x2, xi, Ne.symm x0, Ne.symm x1, Ne.symm x2, Ne.symm xi, hrm, hc]) ?_
    simp -dsimp [List.range_succ, nes8 n1, k0, k1, k2, f0, f1, f2, z1, z2, z3, nes, g1, y0, y1, y2, yn, Ne.symm y0, Ne.symm y1, Ne.symm y2, him, g2, x0, x1, x2, xi, Ne.symm x0, Ne.symm x1, Ne.symm x2, Ne.symm xi, hrm, hc, optC]

theorem do_nodrop1 (d : Desk) (num : Int) (hd : d.small) (hk : deskOk d = true) (h0 : num < 0) : FnZ Tryz.prog 6 [d.v, (⟨1, num, []⟩ : Deed).v] (.tup [d.v, .bool false]) := by
  have hok := deskOk_fn d (by have := hd.2.1; omega) (by have := hd.1.1; omega) (fun p hp => by have := (hd.2.2 p hp).1; omega)
  rw [hk] at hok
  have hcopy := fun m n => copyDesk_own d hd m n
  refine FnZ_of (rs := [.cell 4 28, .tmp 5]) false Tryz.func6 rfl rfl rfl rfl (Nat.le_of_ble_eq_true rfl) ?_
  simp -dsimp
  refine call_ hok (by simp -dsimp) ?_
  simp -dsimp
  refine callL_ (vs := [d.v]) (hcopy _ _) (by simp -dsimp) ?_
  rintro t m1 n1 ⟨hn1, hout, id, st, rfl, hi0, hi1, him, hst, hne⟩
  have k0 := hout 0 (by omega)
  have k1 := hout 1 (by omega)
  have k2 := hout 2 (by omega)
  simp -dsimp at k0 k1 k2
  have f0 := far (show 0 < n1 by omega)
  have f1 := far (show 1 < n1 by omega)
  have f2 := far (show 2 < n1 by omega)
  have z1 : ¬ n1 = 0 := by omega
  have z2 : ¬ n1 = 1 := by omega
  have z3 : ¬ n1 = 2 := by omega
  have g1 := far hi1
  have y0 : ¬ id = 0 := by omega
  have y1 : ¬ id = 1 := by omega
  have y2 : ¬ id = 2 := by omega
  have yn : ¬ id = n1 := by omega
  have hc := hst.cell
  rcases hst with ⟨rfl, hs0⟩ | ⟨r, rfl, hr0, hr1, hrm⟩
  · have hp0 : d.past = [] := by simpa using hs0
    simp -dsimp [nes8 n1, k0, k1, k2, f0, f1, f2, z1, z2, z3, nes, g1, y0, y1, y2, yn, Ne.symm y0, Ne.symm y1, Ne.symm y2, him, hp0, hc, h0]
    refine twp_draw (List.range 13) [1, n1, id] (List.replicate 13 [0, 1, 2]) (List.replicate 13 [0, 1, 2]) (by kernel_rfl) (by kernel_rfl) (by kernel_rfl) (by kernel_rfl) ?_
    simp -dsimp [List.range_succ, nes8 n1, k0, k1, k2, f0, f1, f2, z1, z2, z3, nes, g1, y0, y1, y2, yn, Ne.symm y0, Ne.symm y1, Ne.symm y2, him, hp0, hc, h0]
  · have g2 := far hr1
    have x0 : ¬ r = 0 := by omega
    have x1 : ¬ r = 1 := by omega
    have x2 : ¬ r = 2 := by omega
    have xi : ¬ r = id := fun h => hne (by rw [h])
    simp -dsimp [nes8 n1, k0, k1, k2, f0, f1, f2, z1, z2, z3, nes, g1, y0, y1, y2, yn, Ne.symm y0, Ne.symm y1, Ne.symm y2, him, g2, x0, x1, x2, xi, Ne.symm x0, Ne.symm x1, Ne.symm x2, Ne.symm xi, hrm, hc, h0]
    refine twp_draw (List.range 13) [1, n1, id] (List.replicate 13 [0, 1, 2]) (List.replicate 13 [0, 1, 2]) (by kernel_rfl) (by kernel_rfl) (by kernel_rfl) (by kernel_rfl) ?_
    simp -dsimp [List.range_succ, nes8 n1, k0, k1, k2, f0, f1, f2, z1, z2, z3, nes, g1, y0, y1, y2, yn, Ne.symm y0, Ne.symm y1, Ne.symm y2, him, g2, x0, x1, x2, xi, Ne.symm x0, Ne.symm x1, Ne.symm x2, Ne.symm xi, hrm, hc, h0]
theorem do_nodrop2 (d : Desk) (num : Int) (hd : d.small) (hk : deskOk d = true) (h0 : ¬ num < 0) (h1 : (d.now.story.length : Int) ≤ num) : FnZ Tryz.prog 6 [d.v, (⟨1, num, []⟩ : Deed).v] (.tup [d.v, .bool false]) := by
  have hok := deskOk_fn d (by have := hd.2.1; omega) (by have := hd.1.1; omega) (fun p hp => by have := (hd.2.2 p hp).1; omega)
  rw [hk] at hok
  have hcopy := fun m n => copyDesk_own d hd m n
  refine FnZ_of (rs := [.cell 4 28, .tmp 5]) false Tryz.func6 rfl rfl rfl rfl (Nat.le_of_ble_eq_true rfl) ?_
  simp -dsimp
  refine call_ hok (by simp -dsimp) ?_
  simp -dsimp
  refine callL_ (vs := [d.v]) (hcopy _ _) (by simp -dsimp) ?_
  rintro t m1 n1 ⟨hn1, hout, id, st, rfl, hi0, hi1, him, hst, hne⟩
  have k0 := hout 0 (by omega)
  have k1 := hout 1 (by omega)
  have k2 := hout 2 (by omega)
  simp -dsimp at k0 k1 k2
  have f0 := far (show 0 < n1 by omega)
  have f1 := far (show 1 < n1 by omega)
  have f2 := far (show 2 < n1 by omega)
  have z1 : ¬ n1 = 0 := by omega
  have z2 : ¬ n1 = 1 := by omega
  have z3 : ¬ n1 = 2 := by omega
  have g1 := far hi1
  have y0 : ¬ id = 0 := by omega
  have y1 : ¬ id = 1 := by omega
  have y2 : ¬ id = 2 := by omega
  have yn : ¬ id = n1 := by omega
  have hc := hst.cell
  rcases hst with ⟨rfl, hs0⟩ | ⟨r, rfl, hr0, hr1, hrm⟩
  · have hp0 : d.past = [] := by simpa using hs0
    simp -dsimp [nes8 n1, k0, k1, k2, f0, f1, f2, z1, z2, z3, nes, g1, y0, y1, y2, yn, Ne.symm y0, Ne.symm y1, Ne.symm y2, him, hp0, hc, h0, h1]
    refine twp_draw (List.range 13) [1, n1, id] (List.replicate 13 [0, 1, 2]) (List.replicate 13 [0, 1, 2]) (by kernel_rfl) (by kernel_rfl) (by kernel_rfl) (by kernel_rfl) ?_
    simp -dsimp [List.range_succ, nes8 n1, k0, k1, k2, f0, f1, f2, z1, z2, z3, nes, g1, y0, y1, y2, yn, Ne.symm y0, Ne.symm y1, Ne.symm y2, him, hp0, hc, h0, h1]
  · have g2 := far hr1
    have x0 : ¬ r = 0 := by omega
    have x1 : ¬ r = 1 := by omega
    have x2 : ¬ r = 2 := by omega
    have xi : ¬ r = id := fun h => hne (by rw [h])
    simp -dsimp [nes8 n1, k0, k1, k2, f0, f1, f2, z1, z2, z3, nes, g1, y0, y1, y2, yn, Ne.symm y0, Ne.symm y1, Ne.symm y2, him, g2, x0, x1, x2, xi, Ne.symm x0, Ne.symm x1, Ne.symm x2, Ne.symm xi, hrm, hc, h0, h1]
    refine twp_draw (List.range 13) [1, n1, id] (List.replicate 13 [0, 1, 2]) (List.replicate 13 [0, 1, 2]) (by kernel_rfl) (by kernel_rfl) (by kernel_rfl) (by kernel_rfl) ?_
    simp -dsimp [List.range_succ, nes8 n1, k0, k1, k2, f0, f1, f2, z1, z2, z3, nes, g1, y0, y1, y2, yn, Ne.symm y0, Ne.symm y1, Ne.symm y2, him, g2, x0, x1, x2, xi, Ne.symm x0, Ne.symm x1, Ne.symm x2, Ne.symm xi, hrm, hc, h0, h1]
theorem do_noback (d : Desk)  (hd : d.small) (hk : deskOk d = true) (he : d.past = []) : FnZ Tryz.prog 6 [d.v, (⟨4, 0, []⟩ : Deed).v] (.tup [d.v, .bool false]) := by
  have hok := deskOk_fn d (by have := hd.2.1; omega) (by have := hd.1.1; omega) (fun p hp => by have := (hd.2.2 p hp).1; omega)
  rw [hk] at hok
  have hcopy := fun m n => copyDesk_own d hd m n
  refine FnZ_of (rs := [.cell 4 28, .tmp 5]) false Tryz.func6 rfl rfl rfl rfl (Nat.le_of_ble_eq_true rfl) ?_
  simp -dsimp
  refine call_ hok (by simp -dsimp) ?_
  simp -dsimp
  refine callL_ (vs := [d.v]) (hcopy _ _) (by simp -dsimp) ?_
  rintro t m1 n1 ⟨hn1, hout, id, st, rfl, hi0, hi1, him, hst, hne⟩
  have k0 := hout 0 (by omega)
  have k1 := hout 1 (by omega)
  have k2 := hout 2 (by omega)
  simp -dsimp at k0 k1 k2
  have f0 := far (show 0 < n1 by omega)
  have f1 := far (show 1 < n1 by omega)
  have f2 := far (show 2 < n1 by omega)
  have z1 : ¬ n1 = 0 := by omega
  have z2 : ¬ n1 = 1 := by omega
  have z3 : ¬ n1 = 2 := by omega
  have g1 := far hi1
  have y0 : ¬ id = 0 := by omega
  have y1 : ¬ id = 1 := by omega
  have y2 : ¬ id = 2 := by omega
  have yn : ¬ id = n1 := by omega
  have hc := hst.cell
  rcases hst with ⟨rfl, hs0⟩ | ⟨r, rfl, hr0, hr1, hrm⟩
  · have hp0 : d.past = [] := by simpa using hs0
    have w0 : IntKind.wrap .i64 (-1) = -1 := rfl
    simp -dsimp [nes8 n1, k0, k1, k2, f0, f1, f2, z1, z2, z3, nes, g1, y0, y1, y2, yn, Ne.symm y0, Ne.symm y1, Ne.symm y2, him, hc, hp0, w0]
  · have g2 := far hr1
    have x0 : ¬ r = 0 := by omega
    have x1 : ¬ r = 1 := by omega
    have x2 : ¬ r = 2 := by omega
    have xi : ¬ r = id := fun h => hne (by rw [h])
    rw [he] at hrm
    have hp0 := he
    have w0 : IntKind.wrap .i64 (-1) = -1 := rfl
    simp -dsimp [nes8 n1, k0, k1, k2, f0, f1, f2, z1, z2, z3, nes, g1, y0, y1, y2, yn, Ne.symm y0, Ne.symm y1, Ne.symm y2, him, g2, x0, x1, x2, xi, Ne.symm x0, Ne.symm x1, Ne.symm x2, Ne.symm xi, hrm, hc, hp0, w0]
theorem do_back (d : Desk)  (hd : d.small) (hk : deskOk d = true) (hne0 : d.past ≠ []) : FnZ Tryz.prog 6 [d.v, (⟨4, 0, []⟩ : Deed).v] (.tup [(⟨d.past.getLast?.getD d.now, d.past.dropLast⟩ : Desk).v, .bool true]) := by
  have hok := deskOk_fn d (by have := hd.2.1; omega) (by have := hd.1.1; omega) (fun p hp => by have := (hd.2.2 p hp).1; omega)
  rw [hk] at hok
  have hcopy := fun m n => copyDesk_own d hd m n
  have hpos : 0 < d.past.length := List.length_pos_iff.2 hne0
  have hl8 := hd.2.1
  have w1 : IntKind.wrap .i64 ((d.past.length : Int) - 1) = (d.past.length : Int) - 1 := w64 (by omega) (by omega)
  refine FnZ_of (rs := [.cell 4 28, .tmp 5]) false Tryz.func6 rfl rfl rfl rfl (Nat.le_of_ble_eq_true rfl) ?_
  simp -dsimp
  refine call_ hok (by simp -dsimp) ?_
  simp -dsimp
  refine callL_ (vs := [d.v]) (hcopy _ _) (by simp -dsimp) ?_
  rintro t m1 n1 ⟨hn1, hout, id, st, rfl, hi0, hi1, him, hst, hne⟩
  have k0 := hout 0 (by omega)
  have k1 := hout 1 (by omega)
  have k2 := hout 2 (by omega)
  simp -dsimp at k0 k1 k2
  have f0 := far (show 0 < n1 by omega)
  have f1 := far (show 1 < n1 by omega)
  have f2 := far (show 2 < n1 by omega)
  have z1 : ¬ n1 = 0 := by omega
  have z2 : ¬ n1 = 1 := by omega
  have z3 : ¬ n1 = 2 := by omega
  have g1 := far hi1
  have y0 : ¬ id = 0 := by omega
  have y1 : ¬ id = 1 := by omega
  have y2 : ¬ id = 2 := by omega
  have yn : ¬ id = n1 := by omega
  have hc := hst.cell
  rcases hst with ⟨rfl, hs0⟩ | ⟨r, rfl, hr0, hr1, hrm⟩
  · have hp0 : d.past = [] := by simpa using hs0
    exact absurd hp0 hne0
  · have g2 := far hr1
    have x0 : ¬ r = 0 := by omega
    have x1 : ¬ r = 1 := by omega
    have x2 : ¬ r = 2 := by omega
    have xi : ¬ r = id := fun h => hne (by rw [h])
    obtain ⟨l1, l2, l3, l4, l5, l6⟩ := last_facts (q := d.now) hne0
    have hcl := clip_fn d.past.dropLast (by simp; omega)
    have p1 : (1 : Int) ≤ d.past.length := by omega
    have p2 : 1 ≤ d.past.length := by omega
    have p3 : ¬ (d.past.length : Int) - 1 < 0 := by omega
    have p4 : ¬ (d.past.length : Int) < 1 := by omega
    have zp : allZ 2 (List.map Place.v d.past) := fun x hx => by obtain ⟨p, _, rfl⟩ := List.mem_map.1 hx; exact ⟨by simp, by simp⟩
    generalize d.past.getLast?.getD d.now = q at *
    simp -dsimp [nes8 n1, k0, k1, k2, f0, f1, f2, z1, z2, z3, nes, g1, y0, y1, y2, yn, Ne.symm y0, Ne.symm y1, Ne.symm y2, him, g2, x0, x1, x2, xi, Ne.symm x0, Ne.symm x1, Ne.symm x2, Ne.symm xi, hrm, hc, w1, p1, p2, p3, p4, l1, l4, l5, l6]
    refine twp_draw (List.range 13) [n1, r] (List.replicate 13 [0, 1]) (List.replicate 13 [0, 1]) (by kernel_rfl) (by kernel_rfl) (by kernel_rfl) (by kernel_rfl) ?_
    simp -dsimp [List.range_succ, nes8 n1, k0, k1, k2, f0, f1, f2, z1, z2, z3, nes, g1, y0, y1, y2, yn, Ne.symm y0, Ne.symm y1, Ne.symm y2, him, g2, x0, x1, x2, xi, Ne.symm x0, Ne.symm x1, Ne.symm x2, Ne.symm xi, hrm, hc, w1, p1, p2, p3, p4, l1, l2, l3, l4, l5, l6, zp]
    refine call_ hcl (by simp -dsimp [l3]) ?_
    simp -dsimp [List.range_succ, nes8 n1, k0, k1, k2, f0, f1, f2, z1, z2, z3, nes, g1, y0, y1, y2, yn, Ne.symm y0, Ne.symm y1, Ne.symm y2, him, g2, x0, x1, x2, xi, Ne.symm x0, Ne.symm x1, Ne.symm x2, Ne.symm xi, hrm, hc, w1, p1, p2, p3, p4, l1, l2, l3, l4, l5, l6]
theorem back_no {a : Deed} (h : ¬ (a.kind = 4 ∧ a.num = 0 ∧ a.words = [])) : isBack a = false := by
  simp only [isBack, decide_eq_false_iff_not]; rintro rfl; exact h ⟨rfl, rfl, rfl⟩
theorem deskDo_fn (d : Desk) (a : Deed) (hd : d.small) (ha : a.words.length ≤ 1000000000) : FnZ Tryz.prog 6 [d.v, a.v] (.tup [(deskDo d a).1.v, .bool (deskDo d a).2]) := by
  have hk := ft (deskOk d)
  rcases hk with hk | hk
  · have hok := deskOk_fn d (by have := hd.2.1; omega) (by have := hd.1.1; omega) (fun p hp => by have := (hd.2.2 p hp).1; omega)
    rw [deskDo_no hk]
    rw [hk] at hok
    obtain ⟨a1, a2, a3⟩ := a
    refine FnZ_of (rs := [.cell 4 28, .tmp 5]) false Tryz.func6 rfl rfl rfl rfl (Nat.le_of_ble_eq_true rfl) ?_
    simp -dsimp
    refine call_ hok (by simp -dsimp) ?_
    simp -dsimp [noDeskV]
  obtain ⟨hpast, hnow, hp8⟩ := deskOk_iff.1 hk
  have ml := (made_fine d.now a hnow).2.1
  obtain ⟨kind, num, words⟩ := a
  simp only at ha
  have zero : ∀ a : Deed, isBack a = false → made d.now a = ⟨0, []⟩ → FnZ Tryz.prog 6 [d.v, a.v] (.tup [d.v, .bool false]) → FnZ Tryz.prog 6 [d.v, a.v] (.tup [(deskDo d a).1.v, .bool (deskDo d a).2]) := fun a h1 h2 h3 => by
    rw [deskDo_zero hk h1 h2]; exact h3
  by_cases k0 : kind = 0
  · subst k0
    by_cases n0 : num = 0
    · subst n0
      have hb : isBack ⟨0, 0, words⟩ = false := back_no (by simp)
      cases hr : readC d.now.people words with
      | none => exact zero _ hb (by simp [made, hr]) (do_nosay d words hd hk hr ha)
      | some c =>
        have hm : made d.now ⟨0, 0, words⟩ = ⟨d.now.people, d.now.story ++ [c]⟩ := by simp [made, hr]
        rw [deskDo_made hk hb]
        exact do_say d words c hd hk _ ml hr ha hm
    · exact zero _ (back_no (by simp)) (by simp [made, n0]) (do_bad2 d num words hd hk n0)
  by_cases hw : words = []
  case neg => exact zero _ (back_no (by simp [hw])) (by simp [made, k0, hw]) (do_bad1 d kind num words hd hk k0 hw)
  subst hw
  by_cases k1 : kind = 1
  · subst k1
    have hb : isBack ⟨1, num, []⟩ = false := back_no (by simp)
    by_cases h0 : num < 0
    · exact zero _ hb (by simp [made]; omega) (do_nodrop1 d num hd hk h0)
    · by_cases h1 : (d.now.story.length : Int) ≤ num
      · exact zero _ hb (by simp [made]; omega) (do_nodrop2 d num hd hk h0 h1)
      · obtain ⟨k, rfl⟩ := Int.eq_ofNat_of_zero_le (show 0 ≤ num by omega)
        have hm : made d.now ⟨1, (k : Int), []⟩ = ⟨d.now.people, d.now.story.eraseIdx k⟩ := by
          unfold made; rw [if_neg (by simp), if_pos ⟨rfl, rfl, by simp, by simp; omega⟩]; rfl
        rw [deskDo_made hk hb]
        exact do_drop d k hd hk _ ml (by omega) hm
  by_cases k2 : kind = 2
  · subst k2
    have hb : isBack ⟨2, num, []⟩ = false := back_no (by simp)
    have hm : made d.now ⟨2, num, []⟩ = ⟨num, d.now.story⟩ := by simp [made]
    rw [deskDo_made hk hb]
    exact do_people d num hd hk _ ml hm
  by_cases n0 : num = 0
  case neg => exact zero _ (back_no (by simp [n0])) (by simp [made, k0, k1, k2, n0]) (do_bad3 d kind num hd hk k0 k1 k2 n0)
  subst n0
  by_cases k3 : kind = 3
  · subst k3
    have hb : isBack ⟨3, 0, []⟩ = false := back_no (by simp)
    have hm : made d.now ⟨3, 0, []⟩ = ⟨d.now.people, least d.now.people.toNat d.now.story⟩ := by simp [made]
    rw [deskDo_made hk hb]
    exact do_least d hd hk _ ml hm
  by_cases k4 : kind = 4
  · subst k4
    by_cases he : d.past = []
    · rw [deskDo_bad hk (good_back (by rfl)) (by simp [he])]
      exact do_noback d hd hk he
    · rw [deskDo_back hk (by rfl) he]
      exact do_back d hd hk he
  exact zero _ (back_no (by simp [k4])) (by simp [made, k0, k1, k2, k3]) (do_other d kind hd hk k0 k1 k2 k3 k4)
end TL

/- More than a few cells apart. -/
namespace TL
theorem nes9 (n : Nat) : (¬ n = n + 1 + 1 + 1 + 1 + 1 + 1 + 1 + 1 + 1 + 1 + 1 + 1 + 1 + 1 + 1) ∧ (¬ n + 1 + 1 + 1 + 1 + 1 + 1 + 1 + 1 + 1 + 1 + 1 + 1 + 1 + 1 + 1 = n) ∧ (¬ n = n + 1 + 1 + 1 + 1 + 1 + 1 + 1 + 1 + 1 + 1 + 1 + 1 + 1 + 1 + 1 + 1) ∧ (¬ n + 1 + 1 + 1 + 1 + 1 + 1 + 1 + 1 + 1 + 1 + 1 + 1 + 1 + 1 + 1 + 1 = n) ∧ (¬ n = n + 1 + 1 + 1 + 1 + 1 + 1 + 1 + 1 + 1 + 1 + 1 + 1 + 1 + 1 + 1 + 1 + 1) ∧ (¬ n + 1 + 1 + 1 + 1 + 1 + 1 + 1 + 1 + 1 + 1 + 1 + 1 + 1 + 1 + 1 + 1 + 1 = n) ∧ (¬ n = n + 1 + 1 + 1 + 1 + 1 + 1 + 1 + 1 + 1 + 1 + 1 + 1 + 1 + 1 + 1 + 1 + 1 + 1) ∧ (¬ n + 1 + 1 + 1 + 1 + 1 + 1 + 1 + 1 + 1 + 1 + 1 + 1 + 1 + 1 + 1 + 1 + 1 + 1 = n) ∧ (¬ n = n + 1 + 1 + 1 + 1 + 1 + 1 + 1 + 1 + 1 + 1 + 1 + 1 + 1 + 1 + 1 + 1 + 1 + 1 + 1) ∧ (¬ n + 1 + 1 + 1 + 1 + 1 + 1 + 1 + 1 + 1 + 1 + 1 + 1 + 1 + 1 + 1 + 1 + 1 + 1 + 1 = n) ∧ (¬ n = n + 1 + 1 + 1 + 1 + 1 + 1 + 1 + 1 + 1 + 1 + 1 + 1 + 1 + 1 + 1 + 1 + 1 + 1 + 1 + 1) ∧ (¬ n + 1 + 1 + 1 + 1 + 1 + 1 + 1 + 1 + 1 + 1 + 1 + 1 + 1 + 1 + 1 + 1 + 1 + 1 + 1 + 1 = n) ∧ (¬ n = n + 1 + 1 + 1 + 1 + 1 + 1 + 1 + 1 + 1 + 1 + 1 + 1 + 1 + 1 + 1 + 1 + 1 + 1 + 1 + 1 + 1) ∧ (¬ n + 1 + 1 + 1 + 1 + 1 + 1 + 1 + 1 + 1 + 1 + 1 + 1 + 1 + 1 + 1 + 1 + 1 + 1 + 1 + 1 + 1 = n) ∧ (¬ n = n + 1 + 1 + 1 + 1 + 1 + 1 + 1 + 1 + 1 + 1 + 1 + 1 + 1 + 1 + 1 + 1 + 1 + 1 + 1 + 1 + 1 + 1) ∧ (¬ n + 1 + 1 + 1 + 1 + 1 + 1 + 1 + 1 + 1 + 1 + 1 + 1 + 1 + 1 + 1 + 1 + 1 + 1 + 1 + 1 + 1 + 1 = n) ∧ (¬ n = n + 1 + 1 + 1 + 1 + 1 + 1 + 1 + 1 + 1 + 1 + 1 + 1 + 1 + 1 + 1 + 1 + 1 + 1 + 1 + 1 + 1 + 1 + 1) ∧ (¬ n + 1 + 1 + 1 + 1 + 1 + 1 + 1 + 1 + 1 + 1 + 1 + 1 + 1 + 1 + 1 + 1 + 1 + 1 + 1 + 1 + 1 + 1 + 1 = n) ∧ (¬ n = n + 1 + 1 + 1 + 1 + 1 + 1 + 1 + 1 + 1 + 1 + 1 + 1 + 1 + 1 + 1 + 1 + 1 + 1 + 1 + 1 + 1 + 1 + 1 + 1) ∧ (¬ n + 1 + 1 + 1 + 1 + 1 + 1 + 1 + 1 + 1 + 1 + 1 + 1 + 1 + 1 + 1 + 1 + 1 + 1 + 1 + 1 + 1 + 1 + 1 + 1 = n) ∧ (¬ n = n + 1 + 1 + 1 + 1 + 1 + 1 + 1 + 1 + 1 + 1 + 1 + 1 + 1 + 1 + 1 + 1 + 1 + 1 + 1 + 1 + 1 + 1 + 1 + 1 + 1) ∧ (¬ n + 1 + 1 + 1 + 1 + 1 + 1 + 1 + 1 + 1 + 1 + 1 + 1 + 1 + 1 + 1 + 1 + 1 + 1 + 1 + 1 + 1 + 1 + 1 + 1 + 1 = n) ∧ (¬ n = n + 1 + 1 + 1 + 1 + 1 + 1 + 1 + 1 + 1 + 1 + 1 + 1 + 1 + 1 + 1 + 1 + 1 + 1 + 1 + 1 + 1 + 1 + 1 + 1 + 1 + 1) ∧ (¬ n + 1 + 1 + 1 + 1 + 1 + 1 + 1 + 1 + 1 + 1 + 1 + 1 + 1 + 1 + 1 + 1 + 1 + 1 + 1 + 1 + 1 + 1 + 1 + 1 + 1 + 1 = n) := by
  refine ⟨?_, ?_, ?_, ?_, ?_, ?_, ?_, ?_, ?_, ?_, ?_, ?_, ?_, ?_, ?_, ?_, ?_, ?_, ?_, ?_, ?_, ?_, ?_, ?_⟩ <;> omega
end TL
