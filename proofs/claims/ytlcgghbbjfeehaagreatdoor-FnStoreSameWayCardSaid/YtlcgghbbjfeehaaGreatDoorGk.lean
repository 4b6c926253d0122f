/- TL: parts FnsM1, FnsM2, FnsM3, FnsM4, FnsK3, FnsP4, FnsK4, FnsGDb, FnsGD, FnsFWa, FnsFWb, FnsFWc, FnsFWd, TlWrap. -/
import Derived.Test.YtlcgghbbjfeehaaGreatDoorGj
import Derived.Test.YtlcgghbbjfeehaaGreatDoorGh
import Derived.Test.YtlcgghbbjfeehaaGreatDoorGi
import Derived.Test.YtlcgghbbjfeehaaGreatDoorGf
import Derived.Test.YtlcgghbbjfeehaaGreatDoorGd
import Derived.Test.YtlcgghbbjfeehaaGreatDoorShelfB
import Derived.Test.YtlcgghbbjfeehaaGreatDoorShelfC
import Derived.Stop.LaidErr
import Derived.LaidLaws
import Derived.KernelRfl
import Derived.Test.YtlcgghbbjfeehaaGreatDoorRows
import Derived.JoinedOf
import Derived.SevenTiedAt
import Derived.HandedShaped
/- Copies of desks, past places as cells that may change: the reference. -/
set_option linter.unusedSimpArgs false
set_option linter.unusedVariables false
set_option maxRecDepth 100000
set_option maxHeartbeats 4000000
set_option pp.maxSteps 1500
namespace TL
open Go Go.Proofs
attribute [local simp] marksV storyV codeV Claim.v Place.v Desk.v
def PastT (m : Mem) (lo hi : Nat) (P : T) (l : List Place) : Prop := (P = .nil ∧ l = []) ∨ ∃ id ex, P = .sv id 0 l.length ∧ lo ≤ id ∧ id < hi ∧ m id = some (.box 37 2 (plT l ++ ex))
def OwnDeskM (d : Desk) (m : Mem) (n : Nat) (t : T) (m' : Mem) (n' : Nat) : Prop := n ≤ n' ∧ (∀ j, j < n → m' j = m j) ∧ ∃ st, t = .agg [.v (.int .i64 d.now.people), .v (storyV d.now.story), st] ∧ PastT m' n n' st d.past
def Iom (d : Desk) (P : T) (m : Mem) (n : Nat) (e : Nat) (s : S) : Prop := ∃ (i : Nat) (st : T), s.tm 1 = .ptr n 0 ∧ s.tm 2 = .ptr (n + 1) 0 ∧ s.tm 3 = .ptr (n + 2) 0 ∧ s.tm 4 = .v (.int .i64 i) ∧ s.mu = true ∧ i ≤ d.past.length ∧ n + 3 ≤ s.n ∧
  s.m n = some (.box 40 3 [.v (.int .i64 d.now.people), .v (storyV d.now.story), P]) ∧ s.m (n + 1) = some (.box 40 3 [.v (.int .i64 0), .nil, .nil]) ∧
  s.m (n + 2) = some (.box 40 3 [.v (.int .i64 d.now.people), .v (storyV d.now.story), st]) ∧ PastT s.m (n + 3) s.n st (d.past.take i) ∧ (∀ j, j < n → s.m j = m j) ∧ (e = 1 → i = d.past.length)
theorem l15Copy_mut (d : Desk) (hd : d.small) (P : T) (m : Mem) (n : Nat) (hP : PastT m 0 n P d.past) : FnS Tryz.prog 98 m n [.agg [.v (.int .i64 d.now.people), .v (storyV d.now.story), P]] (OwnDeskM d m n) := by
  have hl := hd.2.1
  refine FnS_of (rs := [.cell 2 40]) true Tryz.func98 rfl rfl rfl rfl (Nat.le_of_ble_eq_true rfl) ?_
  have e0 : ¬ n = n + 1 := by omega
  have e1 : ¬ n = n + 2 := by omega
  have e2 : ¬ n + 1 = n + 2 := by omega
  have e3 : ¬ n + 2 = n := by omega
  have e4 : ¬ n + 2 = n + 1 := by omega
  have e5 : ¬ n + 1 = n := by omega
  have hPc : P.cell = true := by rcases hP with ⟨rfl, _⟩ | ⟨id, ex, rfl, _⟩ <;> rfl
  have hPb : ∀ d, bor true m d P = none ∨ True := fun _ => .inr trivial
  simp -dsimp [hPc]
  refine call_ (l15Place_fn d.now hd.1) (by simp -dsimp) ?_
  simp -dsimp [e0, e1, e2, e3, e4, e5, nes, hPc]
  refine twp_loopC (Iom d P m n 0) (fun s => d.past.length - natOf (s.tm 4)) (Iom d P m n 1) ?_ ?_ ?_
  · refine ⟨0, .nil, by simp -dsimp, by simp -dsimp, by simp -dsimp, by simp -dsimp, by simp -dsimp, by omega, by simp -dsimp, by simp -dsimp [nes], by simp -dsimp [nes], by simp -dsimp, .inl ⟨rfl, by simp⟩, fun j j1 => ?_, by simp⟩
    simp -dsimp [far j1]
  · rintro s ⟨i, st, t1, t2, t3, t4, hmu, hi, hn, m0, m1, m2, hst, hout, hend⟩
    have hlen : slLen s.m P = some d.past.length := by
      rcases hP with ⟨rfl, h0⟩ | ⟨id, ex, rfl, _⟩
      · rw [h0]; rfl
      · rfl
    by_cases hlt : i < d.past.length
    case neg =>
      rcases hP with ⟨rfl, h0⟩ | ⟨pid, ex, rfl, hp0, hp1, hpm⟩
      · have h00 : d.past.length = 0 := by rw [h0]; rfl
        have i0 : i = 0 := by omega
        simp -dsimp [t1, t4, m0, i0]
        exact ⟨0, st, by simp -dsimp [t1], by simp -dsimp [t2], by simp -dsimp [t3], by simp -dsimp [t4, i0], by simp -dsimp [hmu], by omega, by simp -dsimp; omega, by simp -dsimp [m0], by simp -dsimp [m1], by simp -dsimp [m2], by rw [i0] at hst; exact hst, fun j j1 => by simp -dsimp [hout j j1], fun _ => by omega⟩
      · simp -dsimp [t1, t4, m0, hlt]
        exact ⟨i, st, by simp -dsimp [t1], by simp -dsimp [t2], by simp -dsimp [t3], by simp -dsimp [t4], by simp -dsimp [hmu], hi, by simp -dsimp; omega, by simp -dsimp [m0], by simp -dsimp [m1], by simp -dsimp [m2], hst, fun j j1 => by simp -dsimp [hout j j1], fun _ => by omega⟩
    rcases hP with ⟨rfl, h0⟩ | ⟨pid, ex, rfl, hp0, hp1, hpm⟩
    · rw [h0] at hlt; simp at hlt
    have hpm' : s.m pid = some (.box 37 2 (plT d.past ++ ex)) := by rw [hout pid hp1]; exact hpm
    have hget := plT_get (ex := ex) hlt
    have hgl : i * 2 + 2 ≤ (plT d.past ++ ex).length := by simp; omega
    have hgl2 : i * 2 + 2 ≤ d.past.length * 2 + ex.length := by omega
    have wi : IntKind.wrap .i64 ((i : Int) + 1) = ((i + 1 : Nat) : Int) := by rw [w64 (by omega) (by omega)]; omega
    have hmu1 : d.past.length - (i + 1) < d.past.length - i := by omega
    have f0 := far (show n < s.n by omega)
    have f1 := far (show n + 1 < s.n by omega)
    have f2 := far (show n + 2 < s.n by omega)
    have f3 := far (show pid < s.n by omega)
    have d0 : ¬ pid = n := by omega
    have d1 : ¬ pid = n + 1 := by omega
    have d2 : ¬ pid = n + 2 := by omega
    have hsm := hd.2.2 d.past[i] (List.getElem_mem _)
    have hpl := l15Place_fn d.past[i] hsm
    have b1 : (min i d.past.length + 1) * 32 ≤ 140737488355328 := by omega
    have b2 : (i + 1) * 32 ≤ 140737488355328 := by omega
    have htk : plT (d.past.take (i + 1)) = plT (d.past.take i) ++ [.v (.int .i64 d.past[i].people), .v (storyV d.past[i].story)] := by rw [List.take_succ_eq_append_getElem hlt, plT_append]; rfl
    have hil : min i d.past.length = i := by omega
    simp -dsimp [t1, t4, m0, hlt]
    have hTb : plT (d.past.take i) = plT (d.past.take i) := rfl
    refine twp_draw (List.range 12) [n, n + 2, pid] (List.replicate 12 [0, 1, 2]) (List.replicate 11 [0, 1, 2] ++ [[0, 2]]) (by kernel_rfl) (by kernel_rfl) (by kernel_rfl) (by kernel_rfl) ?_
    rcases hst with ⟨rfl, hs0⟩ | ⟨id, ex2, rfl, hi0, hi1, him⟩
    · simp -dsimp [List.range_succ, t1, t3, t4, m0, m2, hlt, hget, hgl, hgl2, hpm', nes, f0, f1, f2, f3, e0, e1, e2, e3, e4, e5, d0, d1, d2]
      refine call_ hpl (by simp -dsimp) ?_
      simp -dsimp [List.range_succ, t1, t3, t4, m0, m2, hlt, hget, hgl, hgl2, hpm', hmu, nes, f0, f1, f2, f3, e0, e1, e2, e3, e4, e5, d0, d1, d2, wi, hmu1]
      have hi00 : i = 0 := by
        simp at hs0; rcases hs0 with h | h
        · exact h
        · rw [h] at hlt; simp at hlt
      subst hi00
      refine st_out fun s' ht hm' hn' hu' => ?_
      have q1 := ht 1
      have q2 := ht 2
      have q3 := ht 3
      have q4 := ht 4
      simp -dsimp [t1, t2, t3] at q1 q2 q3 q4 hm' hn' hu'
      clear ht
      refine ⟨1, .sv (s.n + 1) 0 1, q1, q2, q3, q4, by rw [hu', hmu], by omega, by omega, by simp [hm', nes, e0, e1, f0, m0], by simp [hm', nes, e2, f0, f1, m1], by simp [hm', nes, f2], .inr ⟨s.n + 1, [], ?_, by omega, by omega, ?_⟩, fun j j1 => ?_, by simp⟩
      · simp; omega
      · rw [htk]; simp [hm', nes, f0, f1, f2]
      · simp [hm', far (show j < s.n by omega), show ¬ j = n + 2 by omega, hout j j1]
    · have g1 := far hi1
      have g2 : ¬ id = n + 2 := by omega
      have g0 : ¬ id = n := by omega
      have g3 : ¬ id = n + 1 := by omega
      have g4 : ¬ id = pid := by omega
      simp -dsimp [List.range_succ, t1, t3, t4, m0, m2, hlt, hget, hgl, hgl2, hpm', nes, f0, f1, f2, f3, e0, e1, e2, e3, e4, e5, d0, d1, d2]
      refine call_ hpl (by simp -dsimp) ?_
      simp -dsimp [List.range_succ, t1, t3, t4, m0, m2, hlt, hget, hgl, hgl2, hpm', hmu, nes, f0, f1, f2, f3, e0, e1, e2, e3, e4, e5, d0, d1, d2, wi, hmu1, b1, g1, g2, g0, g3, g4, Ne.symm g0, Ne.symm g2, Ne.symm g3, Ne.symm g4, him]
      refine st_out fun s' ht hm' hn' hu' => ?_
      have q1 := ht 1
      have q2 := ht 2
      have q3 := ht 3
      have q4 := ht 4
      simp -dsimp [t1, t2, t3] at q1 q2 q3 q4 hm' hn' hu'
      clear ht
      refine ⟨i + 1, .sv (s.n + 1) 0 (i + 1), q1, q2, q3, q4, by rw [hu', hmu], by omega, by omega, by simp [hm', nes, e0, e1, f0, m0, Ne.symm g0], by simp [hm', nes, e2, f0, f1, m1, Ne.symm g3], by simp [hm', nes, f2, hil], .inr ⟨s.n + 1, [], ?_, by omega, by omega, ?_⟩, fun j j1 => ?_, by simp⟩
      · simp; omega
      · rw [htk]; simp [hm', f0, f1, f2, nes, hil]
      · simp [hm', far (show j < s.n by omega), show ¬ j = n + 2 by omega, show ¬ j = id by omega, hout j j1]
  · rintro s ⟨i, st, t1, t2, t3, t4, hmu, hi, hn, m0, m1, m2, hst, hout, hend⟩
    have := hend rfl
    subst this
    rw [List.take_length] at hst
    have f1 := far (show n + 1 < s.n by omega)
    rcases hst with ⟨rfl, hs0⟩ | ⟨id, ex2, rfl, hi0, hi1, him⟩
    · simp -dsimp [t2, t3, m1, m2, e2, e4]
      exact ⟨by omega, fun j j1 => by simp [show ¬ j = n + 1 by omega, hout j j1], .nil, rfl, .inl ⟨rfl, hs0⟩⟩
    · have g3 : ¬ id = n + 1 := by omega
      simp -dsimp [t2, t3, m1, m2, e2, e4]
      exact ⟨by omega, fun j j1 => by simp [show ¬ j = n + 1 by omega, hout j j1], .sv id 0 d.past.length, rfl, .inr ⟨id, ex2, rfl, by omega, by omega, by simp [g3, him]⟩⟩
end TL

/- Deeds at a desk, past places as cells that may change: the reference. -/
set_option linter.unusedSimpArgs false
set_option linter.unusedVariables false
set_option maxRecDepth 100000
set_option maxHeartbeats 4000000
set_option pp.maxSteps 1500
namespace TL
open Go Go.Proofs
attribute [local simp] marksV storyV codeV Claim.v Place.v Deed.v Desk.v
theorem PastT.cell {m : Mem} {lo hi : Nat} {P : T} {l : List Place} (h : PastT m lo hi P l) : P.cell = true := by
  rcases h with ⟨rfl, _⟩ | ⟨id, ex, rfl, _⟩ <;> rfl
theorem PastT.cells {m : Mem} {lo hi : Nat} {P : T} {l : List Place} (h : PastT m lo hi P l) : P.cells = [P] := by
  rcases h with ⟨rfl, _⟩ | ⟨id, ex, rfl, _⟩ <;> rfl
theorem PastT.len {m : Mem} {lo hi : Nat} {P : T} {l : List Place} (h : PastT m lo hi P l) (mm : Mem) : evLen Tryz.prog 38 mm P = some ⟨.v (.int .i64 l.length), []⟩ := by
  rcases h with ⟨rfl, rfl⟩ | ⟨id, ex, rfl, _⟩ <;> simp <;> rfl
theorem PastT.bor {m : Mem} {lo hi : Nat} {P : T} {l : List Place} (h : PastT m lo hi P l) {mm : Mem} (hm : ∀ j, lo ≤ j → j < hi → mm j = m j) (d : Nat) : TL.bor true mm (d + 1) P = some (.sl (l.map Place.v)) := by
  rcases h with ⟨rfl, rfl⟩ | ⟨id, ex, rfl, h0, h1, h2⟩
  · rfl
  · have e : mm id = some (.box 37 2 (plT l ++ ex)) := by rw [hm id h0 h1, h2]
    have c1 : 0 + l.length * 2 ≤ (plT l ++ ex).length := by simp
    have c2 : ((plT l ++ ex).drop 0).take (l.length * 2) = plT l := by rw [List.drop_zero, plT_take_ex]
    show (match mm id with | some (.box _ z cs) => tst (0 + l.length * z ≤ cs.length) (obind (mapO (TL.bor true mm d) ((cs.drop 0).take (l.length * z))) fun xs => tst (∀ x ∈ xs, x.cell = true) (some (V.sl (chunk z l.length xs)))) | _ => none) = _
    rw [e]
    show tst (0 + l.length * 2 ≤ (plT l ++ ex).length) (obind (mapO (TL.bor true mm d) (((plT l ++ ex).drop 0).take (l.length * 2))) fun xs => tst (∀ x ∈ xs, x.cell = true) (some (V.sl (chunk 2 l.length xs)))) = _
    rw [tst_pos c1, c2, plT_bor, obind_some, tst_pos (plV_cell l), plV_chunk]
theorem PastT.keep {m m' : Mem} {lo hi lo' hi' : Nat} {P : T} {l : List Place} (h : PastT m lo hi P l) (h1 : lo' ≤ lo) (h2 : hi ≤ hi') (hm : ∀ j, lo ≤ j → j < hi → m' j = m j) : PastT m' lo' hi' P l := by
  rcases h with ⟨rfl, rfl⟩ | ⟨id, ex, rfl, g0, g1, g2⟩
  · exact .inl ⟨rfl, rfl⟩
  · exact .inr ⟨id, ex, rfl, by omega, by omega, by rw [hm id g0 g1, g2]⟩
theorem desk_arg {m : Mem} {hi : Nat} {P : T} {d : Desk} (h : PastT m 0 hi P d.past) {mm : Mem} (hm : ∀ j, j < hi → mm j = m j) : mapO (TL.bor true mm 4) [.agg [.v (.int .i64 d.now.people), .v (storyV d.now.story), P]] = some [d.v] := by
  have hb := h.bor (mm := mm) (fun j _ hj => hm j hj) 2
  simp [hb]
/-- The reference's DeskNew, its row of places of before the caller's own. -/
def NewT (p : Place) (m : Mem) (n : Nat) (t : T) (m' : Mem) (n' : Nat) : Prop := n ≤ n' ∧ (∀ j, j < n → m' j = m j) ∧
  ((placeOk p = true ∧ t = .tup [.agg [.v (.int .i64 p.people), .v (storyV p.story), .nil], .v (.bool true)]) ∨ (placeOk p = false ∧ t = .tup [.agg [.v (.int .i64 0), .nil, .nil], .v (.bool false)]))
theorem deskNewS_mut (p : Place) (hp : p.small) (hf : p.fit) (m : Mem) (n : Nat) : FnS Tryz.prog 94 m n [.v p.v] (NewT p m n) := by
  have hok := placeOkS_fn p ⟨by have := hp.1; omega, fun c hc => ⟨(hf.2 c hc).2, by have := hp.2 c hc; unfold Claim.small at this; omega⟩⟩
  have hk := ft (placeOk p)
  refine FnS_of (rs := [.cell 2 40, .tmp 3]) true Tryz.func94 rfl rfl rfl rfl (Nat.le_of_ble_eq_true rfl) ?_
  have e0 : ¬ n = n + 1 := by omega
  have e5 : ¬ n + 1 = n := by omega
  rcases hk with hk | hk
  · rw [hk] at hok
    simp -dsimp
    refine call_ hok (by simp -dsimp [e0, e5, nes]) ?_
    simp -dsimp [e0, e5, nes]
    exact ⟨by omega, fun j j1 => by simp [far j1], .inr ⟨hk, rfl⟩⟩
  · rw [hk] at hok
    simp -dsimp
    refine call_ hok (by simp -dsimp [e0, e5, nes]) ?_
    simp -dsimp [e0, e5, nes]
    refine call_ (l15Place_fn p hp) (by simp -dsimp) ?_
    simp -dsimp [e0, e5, nes]
    exact ⟨by omega, fun j j1 => by simp [far j1], .inl ⟨hk, rfl⟩⟩
/-- Nothing can be done at no desk. -/
theorem deskDoS_none (a : Deed) (m : Mem) (n : Nat) : FnS Tryz.prog 95 m n [.agg [.v (.int .i64 0), .v (.sl []), .nil], .v a.v] (fun t m' n' => n ≤ n' ∧ (∀ j, j < n → m' j = m j) ∧ t = .tup [.agg [.v (.int .i64 0), .nil, .nil], .v (.bool false)]) := by
  have hno : deskOk noDeskV = false := by decide
  have hok := deskOkS_fn noDeskV ⟨⟨by simp [noDeskV], by simp [noDeskV]⟩, by simp [noDeskV], by simp [noDeskV]⟩ ⟨⟨by simp [noDeskV, fit], by simp [noDeskV]⟩, by simp [noDeskV]⟩
  rw [hno] at hok
  obtain ⟨a1, a2, a3⟩ := a
  refine FnS_of (rs := [.cell 4 40, .tmp 5]) true Tryz.func95 rfl rfl rfl rfl (Nat.le_of_ble_eq_true rfl) ?_
  have e0 : ¬ n = n + 1 := by omega
  have e1 : ¬ n = n + 2 := by omega
  have e2 : ¬ n + 1 = n + 2 := by omega
  have e3 : ¬ n + 2 = n := by omega
  have e4 : ¬ n + 2 = n + 1 := by omega
  have e5 : ¬ n + 1 = n := by omega
  simp -dsimp [e0, e1, e2, e3, e4, e5, nes]
  refine callM_ hok (by simp -dsimp [noDeskV, e0, e1, e2, e3, e4, e5, nes]) rfl ?_
  simp -dsimp [e0, e1, e2, e3, e4, e5, nes]
  exact ⟨by omega, fun j j1 => by simp [far j1]⟩
/-- The reference's DeskDo, its row of places of before the caller's own. -/
def DoT (d : Desk) (a : Deed) (m : Mem) (n : Nat) (t : T) (m' : Mem) (n' : Nat) : Prop := n ≤ n' ∧ (∀ j, j < n → m' j = m j) ∧ ∃ st, t = .tup [.agg [.v (.int .i64 (deskDo d a).1.now.people), .v (storyV (deskDo d a).1.now.story), st], .v (.bool (deskDo d a).2)] ∧ PastT m' n n' st (deskDo d a).1.past
theorem deskDoS_mut (d : Desk) (a : Deed) (hk : deskOk d = true) (h7 : d.past.length ≤ 7) (ha : a.words.length ≤ 1000000000) (P : T) (m : Mem) (n : Nat) (hP : PastT m 0 n P d.past) :
    FnS Tryz.prog 95 m n [.agg [.v (.int .i64 d.now.people), .v (storyV d.now.story), P], .v a.v] (DoT d a m n) := by
  have hd := (desk_fine hk).1
  have hf := (desk_fine hk).2.1
  have hok := deskOkS_fn d hd hf
  rw [hk] at hok
  obtain ⟨hpast, hnow, hp8⟩ := deskOk_iff.1 hk
  have hcopy := l15Copy_mut d hd P
  have hPc := hP.cell
  have hPcs := hP.cells
  have e0 : ¬ n = n + 1 := by omega
  have e1 : ¬ n = n + 2 := by omega
  have e2 : ¬ n + 1 = n + 2 := by omega
  have e3 : ¬ n + 2 = n := by omega
  have e4 : ¬ n + 2 = n + 1 := by omega
  have e5 : ¬ n + 1 = n := by omega
  by_cases hb : isBack a = true ∧ d.past ≠ []
  · have hD := deskDo_back hk hb.1 hb.2
    unfold DoT
    rw [hD]
    have ha4 : a = ⟨4, 0, []⟩ := by have := hb.1; simp only [isBack, decide_eq_true_eq] at this; exact this
    subst ha4
    have hne := hb.2
    have hpos : 0 < d.past.length := List.length_pos_iff.2 hb.2
    have hpos' : (0 : Int) < d.past.length := by omega
    have p1 : (1 : Int) ≤ d.past.length := by omega
    have p2 : 1 ≤ d.past.length := by omega
    have w1 : IntKind.wrap .i64 ((d.past.length : Int) - 1) = (d.past.length : Int) - 1 := w64 (by omega) (by omega)
    clear hb
    have hP2 := hP
    rcases hP with ⟨rfl, hp0⟩ | ⟨pid, pex, rfl, hq0, hq1, hqm⟩
    · exact absurd hp0 hne
    refine FnS_of (rs := [.cell 4 40, .tmp 5]) true Tryz.func95 rfl rfl rfl rfl (Nat.le_of_ble_eq_true rfl) ?_
    simp -dsimp [hPc, hPcs, e0, e1, e2, e3, e4, e5, nes]
    refine callM_ hok (desk_arg hP2 (fun j hj => by simp [far hj])) rfl ?_
    simp -dsimp [hPc, hPcs, e0, e1, e2, e3, e4, e5, nes]
    refine callS_ (hcopy _ _ (hP2.keep (Nat.le_refl _) (by omega) (fun j _ hj => by simp [far hj]))) ?_
    rintro t m1 n1 ⟨hn1, hout, st, rfl, hst⟩
    have k0 := hout n (by omega)
    have k1 := hout (n + 1) (by omega)
    have k2 := hout (n + 1 + 1) (by omega)
    simp -dsimp [e0, e1, e2, e3, e4, e5, nes] at k0 k1 k2
    have f0 := far (show n < n1 by omega)
    have f1 := far (show n + 1 < n1 by omega)
    have f2 := far (show n + 1 + 1 < n1 by omega)
    have z1 : ¬ n1 = n := by omega
    have z2 : ¬ n1 = n + 1 := by omega
    have z3 : ¬ n1 = n + 1 + 1 := by omega
    rcases hst with ⟨rfl, hs0⟩ | ⟨id, ex, rfl, hi0, hi1, him⟩
    · exact absurd hs0 hne
    · have g1 := far hi1
      have hlast : d.past.length - 1 < d.past.length := by omega
      have hget := plT_get (ex := ex) hlast
      have hgl : (d.past.length - 1) * 2 + 2 ≤ (plT d.past ++ ex).length := by simp; omega
      have hgl2 : (d.past.length - 1) * 2 + 2 ≤ d.past.length * 2 + ex.length := by omega
      have l1 : ((d.past.length : Int) - 1).toNat = d.past.length - 1 := by omega
      have l3 : (0 : Int) ≤ (d.past.length : Int) - 1 := by omega
      have l4 : (d.past.length : Int) - 1 < d.past.length := by omega
      have l5 : (d.past.length : Int) - 1 ≤ d.past.length := by omega
      have l6 : d.past.length - 1 ≤ d.past.length := by omega
      have lq : d.past.getLast?.getD d.now = d.past[d.past.length - 1] := by rw [List.getLast?_eq_getElem?, List.getElem?_eq_getElem hlast]; rfl
      have y0 : ¬ id = n := by omega
      have y1 : ¬ id = n + 1 := by omega
      have y2 : ¬ id = n + 1 + 1 := by omega
      have tkd : plT d.past ++ ex = plT d.past.dropLast ++ (plT (d.past.drop (d.past.length - 1)) ++ ex) := by
        rw [List.dropLast_eq_take, ← List.append_assoc, ← plT_append, List.take_append_drop]
      rw [lq]
      generalize d.past[d.past.length - 1] = q at *
      simp -dsimp [k0, k1, k2, f0, f1, f2, z1, z2, z3, hPc, hPcs, hne, hpos, hpos', p1, p2, g1, him, w1, l1, l3, l4, l5, l6, y0, y1, y2, hget, hgl, hgl2, e0, e1, e2, e3, e4, e5, nes]
      have ho : ∀ j, j < n → m1 j = m j := fun j j1 => by have hj := hout j (by omega); simp [far j1] at hj; exact hj
      refine ⟨by omega, fun j j1 => ?_, .inr ⟨id, _, by rw [List.length_dropLast], by omega, by omega, by simp [y2, show ¬ id = n1 by omega, him]; exact tkd⟩⟩
      simp [show ¬ j = n + 1 + 1 by omega, show ¬ j = n1 by omega, ho j j1]
  have hmade := l15Made_fn d.now a hnow ha
  obtain ⟨mf, ml, ms⟩ := made_fine d.now a hnow
  have hpo := placeOkS_fn (made d.now a) mf
  have hpt := placeTextS_fn (made d.now a) mf
  have hpn := placeTextS_fn d.now (place_fine hnow).1
  have hD : deskDo d a = if (placeOk (made d.now a) && !decide (placeTx (made d.now a) = placeTx d.now)) = true then (⟨made d.now a, d.past ++ [d.now]⟩, true) else (d, false) := by
    unfold deskDo
    rw [if_pos hk, if_neg hb]
    have e : keep8 (d.past ++ [d.now]) = d.past ++ [d.now] := by unfold keep8; rw [if_neg (by simp; omega)]
    rw [e]; rfl
  unfold DoT
  rw [hD]
  have hb' : (decide (a = ⟨4, 0, []⟩) = true ∧ d.past ≠ []) → False := hb
  have hba : isBack a = true → placeOk (made d.now a) = false ∧ d.past = [] := fun h => ⟨by rw [made_back h, zero_no], Classical.byContradiction fun h2 => hb' ⟨h, h2⟩⟩
  clear hb hb' hD
  generalize made d.now a = X at *
  generalize placeTx X = tX at *
  generalize placeTx d.now = tN at *
  have hkX := ft (placeOk X)
  generalize placeOk X = okX at *
  obtain ⟨kind, num, words⟩ := a
  have htx : tX = tN ∨ ¬ tX = tN := Classical.em _
  obtain ⟨Xp, Xs⟩ := X
  have fullb : (d.past.length + 1) * 32 ≤ 140737488355328 := by omega
  by_cases hq : kind = 4 ∧ num = 0 ∧ words = []
  · obtain ⟨rfl, rfl, rfl⟩ := hq
    obtain ⟨hokX, he⟩ := hba rfl
    subst hokX
    have hP2 := hP
    have he0 : d.past.length = 0 := by rw [he]; rfl
    rcases hP with ⟨rfl, hp0⟩ | ⟨pid, pex, rfl, hq0, hq1, hqm⟩
    · refine FnS_of (rs := [.cell 4 40, .tmp 5]) true Tryz.func95 rfl rfl rfl rfl (Nat.le_of_ble_eq_true rfl) ?_
      simp -dsimp [hPc, hPcs, e0, e1, e2, e3, e4, e5, nes]
      refine callM_ hok (desk_arg hP2 (fun j hj => by simp [far hj])) rfl ?_
      simp -dsimp [hPc, hPcs, e0, e1, e2, e3, e4, e5, nes]
      refine callS_ (hcopy _ _ (hP2.keep (Nat.le_refl _) (by omega) (fun j _ hj => by simp [far hj]))) ?_
      rintro t m1 n1 ⟨hn1, hout, st, rfl, hst⟩
      have k0 := hout n (by omega)
      have k1 := hout (n + 1) (by omega)
      have k2 := hout (n + 1 + 1) (by omega)
      simp -dsimp [e0, e1, e2, e3, e4, e5, nes] at k0 k1 k2
      have f0 := far (show n < n1 by omega)
      have f1 := far (show n + 1 < n1 by omega)
      have f2 := far (show n + 1 + 1 < n1 by omega)
      have z1 : ¬ n1 = n := by omega
      have z2 : ¬ n1 = n + 1 := by omega
      have z3 : ¬ n1 = n + 1 + 1 := by omega
      have hc := hst.cell
      have hcs := hst.cells
      simp -dsimp [k0, k1, k2, f0, f1, f2, z1, z2, z3, he, he0, hPc, hPcs, hc, hcs, e0, e1, e2, e3, e4, e5, nes]
      refine call_ hmade (by simp -dsimp) ?_
      simp -dsimp [k0, k1, k2, f0, f1, f2, z1, z2, z3, he, he0, hPc, hPcs, hc, hcs, e0, e1, e2, e3, e4, e5, nes]
      refine twp_draw [0, 1, 2, 3, 4, 6, 7, 5, 8, 9, 10] [n, n1 + 1 + 1] (List.replicate 11 [0, 1]) (List.replicate 11 [0, 1]) (by kernel_rfl) (by kernel_rfl) (by kernel_rfl) (by kernel_rfl) ?_
      simp -dsimp [k0, k1, k2, f0, f1, f2, z1, z2, z3, he, he0, hPc, hPcs, hc, hcs, e0, e1, e2, e3, e4, e5, nes]
      refine call_ hpo (by simp -dsimp) ?_
      simp -dsimp [k0, k1, k2, f0, f1, f2, z1, z2, z3, he, he0, hPc, hPcs, hc, hcs, e0, e1, e2, e3, e4, e5, nes]
      have ho : ∀ j, j < n → m1 j = m j := fun j j1 => by have hj := hout j (by omega); simp [far j1] at hj; exact hj
      refine ⟨by omega, fun j j1 => ?_, PastT.keep (lo := n + 1 + 1 + 1) (hi := n1) (he ▸ hst) (by omega) (by omega) (fun j j1 j2 => by simp [show ¬ j = n + 1 + 1 by omega, show ¬ j = n1 by omega, show ¬ j = n1 + 1 + 1 by omega])⟩
      simp [show ¬ j = n + 1 + 1 by omega, show ¬ j = n1 by omega, show ¬ j = n1 + 1 + 1 by omega, ho j j1]
    · refine FnS_of (rs := [.cell 4 40, .tmp 5]) true Tryz.func95 rfl rfl rfl rfl (Nat.le_of_ble_eq_true rfl) ?_
      simp -dsimp [hPc, hPcs, e0, e1, e2, e3, e4, e5, nes]
      refine callM_ hok (desk_arg hP2 (fun j hj => by simp [far hj])) rfl ?_
      simp -dsimp [hPc, hPcs, e0, e1, e2, e3, e4, e5, nes]
      refine callS_ (hcopy _ _ (hP2.keep (Nat.le_refl _) (by omega) (fun j _ hj => by simp [far hj]))) ?_
      rintro t m1 n1 ⟨hn1, hout, st, rfl, hst⟩
      have k0 := hout n (by omega)
      have k1 := hout (n + 1) (by omega)
      have k2 := hout (n + 1 + 1) (by omega)
      simp -dsimp [e0, e1, e2, e3, e4, e5, nes] at k0 k1 k2
      have f0 := far (show n < n1 by omega)
      have f1 := far (show n + 1 < n1 by omega)
      have f2 := far (show n + 1 + 1 < n1 by omega)
      have z1 : ¬ n1 = n := by omega
      have z2 : ¬ n1 = n + 1 := by omega
      have z3 : ¬ n1 = n + 1 + 1 := by omega
      have hc := hst.cell
      have hcs := hst.cells
      simp -dsimp [k0, k1, k2, f0, f1, f2, z1, z2, z3, he, he0, hPc, hPcs, hc, hcs, e0, e1, e2, e3, e4, e5, nes]
      refine call_ hmade (by simp -dsimp) ?_
      simp -dsimp [k0, k1, k2, f0, f1, f2, z1, z2, z3, he, he0, hPc, hPcs, hc, hcs, e0, e1, e2, e3, e4, e5, nes]
      refine twp_draw [0, 1, 2, 3, 4, 6, 7, 5, 8, 9, 10] [n, n1 + 1 + 1] (List.replicate 11 [0, 1]) (List.replicate 11 [0, 1]) (by kernel_rfl) (by kernel_rfl) (by kernel_rfl) (by kernel_rfl) ?_
      simp -dsimp [k0, k1, k2, f0, f1, f2, z1, z2, z3, he, he0, hPc, hPcs, hc, hcs, e0, e1, e2, e3, e4, e5, nes]
      refine call_ hpo (by simp -dsimp) ?_
      simp -dsimp [k0, k1, k2, f0, f1, f2, z1, z2, z3, he, he0, hPc, hPcs, hc, hcs, e0, e1, e2, e3, e4, e5, nes]
      have ho : ∀ j, j < n → m1 j = m j := fun j j1 => by have hj := hout j (by omega); simp [far j1] at hj; exact hj
      refine ⟨by omega, fun j j1 => ?_, PastT.keep (lo := n + 1 + 1 + 1) (hi := n1) (he ▸ hst) (by omega) (by omega) (fun j j1 j2 => by simp [show ¬ j = n + 1 + 1 by omega, show ¬ j = n1 by omega, show ¬ j = n1 + 1 + 1 by omega])⟩
      simp [show ¬ j = n + 1 + 1 by omega, show ¬ j = n1 by omega, show ¬ j = n1 + 1 + 1 by omega, ho j j1]
  · have hbb : (decide (kind = 4) && (decide (num = 0) && decide (words = []))) = false := by
      rw [Bool.eq_false_iff]; intro h; simp at h; exact hq h
    refine FnS_of (rs := [.cell 4 40, .tmp 5]) true Tryz.func95 rfl rfl rfl rfl (Nat.le_of_ble_eq_true rfl) ?_
    simp -dsimp [hPc, hPcs, e0, e1, e2, e3, e4, e5, nes]
    refine callM_ hok (desk_arg hP (fun j hj => by simp [far hj])) rfl ?_
    simp -dsimp [hPc, hPcs, e0, e1, e2, e3, e4, e5, nes]
    refine callS_ (hcopy _ _ (hP.keep (Nat.le_refl _) (by omega) (fun j _ hj => by simp [far hj]))) ?_
    rintro t m1 n1 ⟨hn1, hout, st, rfl, hst⟩
    have k0 := hout n (by omega)
    have k1 := hout (n + 1) (by omega)
    have k2 := hout (n + 1 + 1) (by omega)
    simp -dsimp [e0, e1, e2, e3, e4, e5, nes] at k0 k1 k2
    have f0 := far (show n < n1 by omega)
    have f1 := far (show n + 1 < n1 by omega)
    have f2 := far (show n + 1 + 1 < n1 by omega)
    have z1 : ¬ n1 = n := by omega
    have z2 : ¬ n1 = n + 1 := by omega
    have z3 : ¬ n1 = n + 1 + 1 := by omega
    have hc := hst.cell
    have hcs := hst.cells
    simp -dsimp [k0, k1, k2, f0, f1, f2, z1, z2, z3, hbb, hPc, hPcs, hc, hcs, e0, e1, e2, e3, e4, e5, nes]
    refine call_ hmade (by simp -dsimp) ?_
    simp -dsimp [k0, k1, k2, f0, f1, f2, z1, z2, z3, hPc, hPcs, hc, hcs, e0, e1, e2, e3, e4, e5, nes]
    refine twp_draw [0, 1, 2, 3, 4, 6, 7, 5, 8, 9, 10] [n, n1 + 1 + 1] (List.replicate 11 [0, 1]) (List.replicate 11 [0, 1]) (by kernel_rfl) (by kernel_rfl) (by kernel_rfl) (by kernel_rfl) ?_
    simp -dsimp [k0, k1, k2, f0, f1, f2, z1, z2, z3, hPc, hPcs, hc, hcs, e0, e1, e2, e3, e4, e5, nes]
    refine call_ hpo (by simp -dsimp) ?_
    rcases hkX with rfl | rfl
    · simp -dsimp [k0, k1, k2, f0, f1, f2, z1, z2, z3, hPc, hPcs, hc, hcs, e0, e1, e2, e3, e4, e5, nes]
      have ho : ∀ j, j < n → m1 j = m j := fun j j1 => by have hj := hout j (by omega); simp [far j1] at hj; exact hj
      refine ⟨by omega, fun j j1 => ?_, PastT.keep (lo := n + 1 + 1 + 1) (hi := n1) hst (by omega) (by omega) (fun j j1 j2 => by simp [show ¬ j = n + 1 + 1 by omega, show ¬ j = n1 by omega, show ¬ j = n1 + 1 + 1 by omega])⟩
      simp [show ¬ j = n + 1 + 1 by omega, show ¬ j = n1 by omega, show ¬ j = n1 + 1 + 1 by omega, ho j j1]
    simp -dsimp [k0, k1, k2, f0, f1, f2, z1, z2, z3, hPc, hPcs, hc, hcs, e0, e1, e2, e3, e4, e5, nes]
    refine call_ hpt (by simp -dsimp) ?_
    simp -dsimp [k0, k1, k2, f0, f1, f2, z1, z2, z3, hPc, hPcs, hc, hcs, e0, e1, e2, e3, e4, e5, nes]
    refine call_ hpn (by simp -dsimp) ?_
    rcases htx with rfl | htx
    · simp -dsimp [k0, k1, k2, f0, f1, f2, z1, z2, z3, hPc, hPcs, hc, hcs, e0, e1, e2, e3, e4, e5, nes]
      have ho : ∀ j, j < n → m1 j = m j := fun j j1 => by have hj := hout j (by omega); simp [far j1] at hj; exact hj
      refine ⟨by omega, fun j j1 => ?_, PastT.keep (lo := n + 1 + 1 + 1) (hi := n1) hst (by omega) (by omega) (fun j j1 j2 => by simp [show ¬ j = n + 1 + 1 by omega, show ¬ j = n1 by omega, show ¬ j = n1 + 1 + 1 by omega])⟩
      simp [show ¬ j = n + 1 + 1 by omega, show ¬ j = n1 by omega, show ¬ j = n1 + 1 + 1 by omega, ho j j1]
    rcases hst with ⟨rfl, hs0⟩ | ⟨id, ex, rfl, hi0, hi1, him⟩
    · simp -dsimp [k0, k1, k2, f0, f1, f2, z1, z2, z3, htx, hPc, hPcs, hc, hcs, e0, e1, e2, e3, e4, e5, nes]
      have ho : ∀ j, j < n → m1 j = m j := fun j j1 => by have hj := hout j (by omega); simp [far j1] at hj; exact hj
      refine ⟨by omega, fun j j1 => ?_, .inr ⟨n1 + 1 + 1 + 1 + 1 + 1, [], by simp [hs0], by omega, by omega, ?_⟩⟩
      · simp [show ¬ j = n + 1 + 1 by omega, show ¬ j = n1 by omega, far (show j < n1 by omega), ho j j1]
      · simp [hs0, plT, storyV, nes, f2, show ¬ n1 + 1 + 1 + 1 + 1 + 1 = n + 1 + 1 by omega, show ¬ n1 + 1 + 1 + 1 = n by omega]
    · have g1 := far hi1
      have y0 : ¬ id = n := by omega
      have y1 : ¬ id = n + 1 := by omega
      have y2 : ¬ id = n + 1 + 1 := by omega
      have e8 : ¬ (8 : Int) < (d.past.length : Int) + 1 := by omega
      have e8' : ¬ 8 < d.past.length + 1 := by omega
      simp -dsimp [k0, k1, k2, f0, f1, f2, z1, z2, z3, htx, g1, him, y0, y1, y2, Ne.symm y0, Ne.symm y1, Ne.symm y2, e8, e8', fullb, hPc, hPcs, hc, hcs, e0, e1, e2, e3, e4, e5, nes]
      have ho : ∀ j, j < n → m1 j = m j := fun j j1 => by have hj := hout j (by omega); simp [far j1] at hj; exact hj
      refine ⟨by omega, fun j j1 => ?_, .inr ⟨n1 + 1 + 1 + 1 + 1 + 1, [], by simp, by omega, by omega, ?_⟩⟩
      · simp [show ¬ j = n + 1 + 1 by omega, show ¬ j = n1 by omega, show ¬ j = id by omega, far (show j < n1 by omega), ho j j1]
      · rw [plT_append]; simp [plT, storyV, nes, f2, show ¬ n1 + 1 + 1 + 1 + 1 + 1 = n + 1 + 1 by omega, show ¬ n1 + 1 + 1 + 1 = n by omega]
end TL

/- Drawn desks. -/
set_option linter.unusedSimpArgs false
set_option linter.unusedVariables false
set_option maxRecDepth 100000
set_option maxHeartbeats 4000000
set_option pp.maxSteps 1500
namespace TL
open Go Go.Proofs
attribute [local simp] marksV storyV codeV Claim.v Place.v Deed.v Desk.v
/-- A contract's result, read in another way. -/
theorem FnS.up {f : Nat} {m : Mem} {n : Nat} {args : List T} {post post' : T → Mem → Nat → Prop} (h : FnS Tryz.prog f m n args post)
    (hp : ∀ t m' n', post t m' n' → ∃ t', (∀ φ Z w v, RepT φ Z w t v → RepT φ Z w t' v) ∧ post' t' m' n') : FnS Tryz.prog f m n args post' := by
  refine ⟨h.1, fun φ Z w us hm hr => (h.2 φ Z w us hm hr).mono fun e w' hh => ?_⟩
  obtain ⟨v, φ', Z', m', n', t, rfl, h1, h2, h3, h4⟩ := hh
  obtain ⟨t', h5, h6⟩ := hp _ _ _ h4
  exact ⟨v, φ', Z', m', n', t', rfl, h1, h5 _ _ _ _ h2, h3, h6⟩
theorem nil_up {φ : Phi} {Z : Zs} {w : World} {a b c : T} {v : Value} (h : RepT φ Z w (.tup [.agg [a, .nil, b], c]) v) : RepT φ Z w (.tup [.agg [a, .v (.sl []), b], c]) v := by
  cases h with
  | tup h => cases h with
    | cons h1 h2 => cases h1 with
      | agg h3 => cases h3 with
        | cons h4 h5 => cases h5 with
          | cons h6 h7 => cases h6; exact .tup (.cons (.agg (.cons h4 (.cons (.v (.nil none 0)) h7))) h2)
theorem deskNewS_up (p : Place) (hp : p.small) (hf : p.fit) (m : Mem) (n : Nat) : FnS Tryz.prog 94 m n [.v p.v] (fun t m' n' => n ≤ n' ∧ (∀ j, j < n → m' j = m j) ∧
    t = .tup [.agg [.v (.int .i64 (deskNew p).now.people), .v (storyV (deskNew p).now.story), .nil], .v (.bool (placeOk p))]) := by
  refine (deskNewS_mut p hp hf m n).up ?_
  rintro t m' n' ⟨h1, h2, ⟨h3, rfl⟩ | ⟨h3, rfl⟩⟩
  · have e : deskNew p = ⟨p, []⟩ := if_pos h3
    rw [e, h3]
    exact ⟨_, fun _ _ _ _ h => h, h1, h2, rfl⟩
  · have e : deskNew p = noDeskV := if_neg (by simp [h3])
    rw [e, h3]
    exact ⟨_, fun _ _ _ _ h => nil_up h, h1, h2, rfl⟩
theorem do_len (d : Desk) (a : Deed) : (deskDo d a).1.past.length ≤ d.past.length + 1 := by
  rcases deskDo_ways d a with ⟨h1, e⟩ | ⟨_, hb, hp, e⟩ | ⟨h1, _, hg, e⟩ | ⟨_, _, e⟩
  · rw [e]; simp [noDeskV]
  · rw [e]; simp; omega
  · rw [e]; simp only [keep8]; split <;> simp <;> omega
  · rw [e]; simp
def DoAny (d : Desk) (m : Mem) (n : Nat) (t : T) (m' : Mem) (n' : Nat) : Prop := n ≤ n' ∧ (∀ j, j < n → m' j = m j) ∧ ∃ (y0 y1 y2 : T) (b : Bool), t = .tup [.agg [y0, y1, y2], .v (.bool b)] ∧ y0.cell = true ∧ y1.cell = true ∧ y2.cell = true ∧
  (b = true → ∃ y : Desk, deskOk y = true ∧ y0 = .v (.int .i64 y.now.people) ∧ y1 = .v (storyV y.now.story) ∧ PastT m' n n' y2 y.past ∧ y.past.length ≤ d.past.length + 1)
theorem deskDoS_any (d : Desk) (a : Deed) (P : T) (hd : deskOk d = true ∨ (d = noDeskV ∧ P = .nil)) (h7 : d.past.length ≤ 7) (ha : a.words.length ≤ 1000000000) (m : Mem) (n : Nat) (hP : PastT m 0 n P d.past) :
    FnS Tryz.prog 95 m n [.agg [.v (.int .i64 d.now.people), .v (storyV d.now.story), P], .v a.v] (DoAny d m n) := by
  rcases hd with hk | ⟨rfl, rfl⟩
  · refine (deskDoS_mut d a hk h7 ha P m n hP).weak ?_
    rintro t m' n' ⟨h1, h2, st, rfl, h3⟩
    exact ⟨h1, h2, _, _, _, _, rfl, rfl, rfl, h3.cell, fun _ => ⟨_, deskDo_ok d a hk, rfl, rfl, h3, do_len d a⟩⟩
  · refine (deskDoS_none a m n).weak ?_
    rintro t m' n' ⟨h1, h2, rfl⟩
    exact ⟨h1, h2, _, _, _, _, rfl, rfl, rfl, rfl, fun h => by cases h⟩
def SomeDesk (x : V) : Prop := ∃ d : Desk, d.small ∧ d.fit ∧ d.now.story.length ≤ 1000 ∧ x = d.v
structure DkEnv (m0 : Mem) (n0 rid : Nat) (bs : List UInt8) (k : Int) (s : S) (id : Nat) (d : Desk) (P : T) (p : Nat) : Prop where
  t0 : s.tm 0 = .ptr rid 0
  t1 : s.tm 1 = .v (.int .i64 k)
  t4 : s.tm 4 = .ptr n0 0
  t5 : s.tm 5 = .ptr id 0
  mu : s.mu = true
  i0 : n0 < id
  i1 : id < s.n
  mz : s.m n0 = some (.box 40 3 [.v (.int .i64 0), .nil, .nil])
  mid : s.m id = some (.box 40 3 [.v (.int .i64 d.now.people), .v (storyV d.now.story), P])
  rd : s.m rid = some (rdB bs p)
  out : ∀ j, j < n0 → j ≠ rid → s.m j = m0 j
  ok : deskOk d = true ∨ (d = noDeskV ∧ P = .nil)
  past : PastT s.m (id + 1) s.n P d.past
def LDk (m0 : Mem) (n0 rid : Nat) (bs : List UInt8) (k : Int) (p : Nat) (e : Nat) (s : S) : Prop := ∃ (c id p' : Nat) (d : Desk) (P : T), DkEnv m0 n0 rid bs k s id d P p' ∧ s.tm 7 = .v (.int .i64 c) ∧ c ≤ 4 ∧ d.past.length + c ≤ 4 ∧ p ≤ p' ∧ p' + 101 * c ≤ p + 700 ∧ (e = 1 → c = 0)
def LD6 (m0 : Mem) (n0 rid : Nat) (bs : List UInt8) (k : Int) (p c : Nat) (s : S) : Prop := ∃ (id id8 p' : Nat) (d : Desk) (P y0 y1 y2 : T) (b : Bool), DkEnv m0 n0 rid bs k s id d P p' ∧ s.tm 7 = .v (.int .i64 c) ∧ s.tm 8 = .ptr id8 0 ∧ s.tm 9 = .v (.bool b) ∧ id < id8 ∧ id8 < s.n ∧
  s.m id8 = some (.box 40 3 [y0, y1, y2]) ∧ y0.cell = true ∧ y1.cell = true ∧ y2.cell = true ∧ d.past.length + c ≤ 4 ∧ p ≤ p' ∧ p' + 101 * (c - 1) ≤ p + 700 ∧
  (b = true → ∃ y : Desk, deskOk y = true ∧ y0 = .v (.int .i64 y.now.people) ∧ y1 = .v (storyV y.now.story) ∧ PastT s.m (id + 1) s.n y2 y.past ∧ y.past.length ≤ d.past.length + 1)
theorem noDesk_deskNew {q : Place} : deskOk (deskNew q) = true ∨ (deskNew q = noDeskV ∧ T.nil = .nil) := by
  unfold deskNew; split
  · rename_i h; exact .inl (desk_new h)
  · exact .inr ⟨rfl, rfl⟩
theorem deskNew_past (q : Place) : (deskNew q).past = [] := by unfold deskNew; split <;> rfl
theorem desk_bor {mm : Mem} {x0 : Int} {st : List Claim} {P : T} {l : List Place} (hb : bor true mm 3 P = some (.sl (l.map Place.v))) : bor true mm 4 (.agg [.v (.int .i64 x0), .v (storyV st), P]) = some (Desk.v ⟨⟨x0, st⟩, l⟩) := by simp [hb]
theorem plT_bor_nil (k : Bool) (m : Mem) (d : Nat) (l : List Place) : mapO (bor k m d) (plT l ++ [.v (.int .i64 0), .nil]) = some ((l ++ [(⟨0, []⟩ : Place)]).flatMap fun p => p.v.cells) := by
  induction l with
  | nil => cases d <;> rfl
  | cons p l ih => simp [plT, mapO, ih, V.cells]
theorem row_plus {mm : Mem} {id : Nat} {l : List Place} (h : mm id = some (.box 37 2 (plT l ++ [.v (.int .i64 0), .nil]))) : bor true mm 3 (.sv id 0 (l.length + 1)) = some (.sl ((l ++ [(⟨0, []⟩ : Place)]).map Place.v)) := by
  have c1 : 0 + (l.length + 1) * 2 ≤ (plT l ++ [T.v (.int .i64 0), .nil]).length := by simp; omega
  have c2 : ((plT l ++ [T.v (.int .i64 0), .nil]).drop 0).take ((l.length + 1) * 2) = plT l ++ [.v (.int .i64 0), .nil] := by rw [List.drop_zero, List.take_of_length_le (by simp; omega)]
  show (match mm id with | some (.box _ z cs) => tst (0 + (l.length + 1) * z ≤ cs.length) (obind (mapO (TL.bor true mm 2) ((cs.drop 0).take ((l.length + 1) * z))) fun xs => tst (∀ x ∈ xs, x.cell = true) (some (V.sl (chunk z (l.length + 1) xs)))) | _ => none) = _
  rw [h]
  show tst (0 + (l.length + 1) * 2 ≤ (plT l ++ [T.v (.int .i64 0), .nil]).length) (obind (mapO (TL.bor true mm 2) (((plT l ++ [T.v (.int .i64 0), .nil]).drop 0).take ((l.length + 1) * 2))) fun xs => tst (∀ x ∈ xs, x.cell = true) (some (V.sl (chunk 2 (l.length + 1) xs)))) = _
  have e := plV_chunk (l ++ [(⟨0, []⟩ : Place)])
  rw [List.length_append, List.length_singleton] at e
  rw [tst_pos c1, c2, plT_bor_nil, obind_some, tst_pos (plV_cell _), e]
theorem desk_z (bs : List UInt8) (p : Nat) (hp : p < 500000000) (k : Int) (hk0 : 0 ≤ k) (hk : k < 100000) (m : Mem) (n rid : Nat) (hr : rid < n) (hm : m rid = some (rdB bs p)) :
    FnS Tryz.prog 60 m n [.ptr rid 0, .v (.int .i64 k)] (Draws SomeDesk 1000 m n rid bs p) := by
  refine Draws_of hr ⟨_, Tryz.func60, rfl, rfl⟩ fun hfr => ?_
  refine FnS_of (rs := [.cell 4 40]) true Tryz.func60 rfl rfl rfl rfl (Nat.le_of_ble_eq_true rfl) ?_
  have f1 := far hr
  simp -dsimp
  refine callS_ (place_z bs p (by omega) 0 (by omega) (by omega) _ _ rid (by omega) (by simp [hm, f1])) ?_
  rintro t m1 n1 ⟨hn1, ⟨x, ⟨q, hq1, hq2, hq3, rfl⟩, rfl⟩, p1, hp1, hp2, rfl⟩
  have small : q.small := ⟨by omega, fun c hc => by have := hq2 c hc; unfold Claim.small; omega⟩
  have g1 := far (show rid < n1 by omega)
  have g2 := far (show n < n1 by omega)
  have g3 : ¬ n = rid := by omega
  have hnok := noDesk_deskNew (q := q)
  have hnp := deskNew_past q
  simp -dsimp [g1, g2, g3]
  refine callS_ (deskNewS_up q small hq3 _ _) ?_
  rintro t m2 n2 ⟨hn2, hout2, rfl⟩
  have k0 := hout2 rid (by omega)
  have k1 := hout2 n (by omega)
  have hox : ∀ j, j < n → j ≠ rid → m2 j = m j := fun j j1 j2 => by rw [hout2 j (by omega)]; simp [far j1, j2]
  simp -dsimp [g3, Ne.symm g3, f1] at k0 k1
  generalize deskNew q = D at *
  generalize placeOk q = okq at *
  clear hout2
  obtain ⟨⟨x1, x2⟩, x3⟩ := D
  simp only at hnp
  have h1 := far (show rid < n2 by omega)
  have h2 := far (show n < n2 by omega)
  simp -dsimp [g1, g2, g3, nes]
  refine callS_ (pick_at bs p1 (by omega) _ _ _ rid (by simp [h1, k0])) ?_
  rintro t m3 n3 ⟨hn3, ⟨r, rfl, hr0, hr1⟩, rfl⟩
  have hr1 := hr1 (by decide)
  obtain ⟨r, rfl⟩ := Int.eq_ofNat_of_zero_le hr0
  have d0 : ¬ rid = n2 := by omega
  have d1 : ¬ n2 = rid := by omega
  have d2 : ¬ n2 = n := by omega
  have d3 : ¬ n = n2 := by omega
  simp -dsimp
  refine twp_loopC (LDk m n rid bs k p 0) (fun s => natOf (s.tm 7)) (LDk m n rid bs k p 1) ?_ ?_ ?_
  · refine ⟨r, n2, p1 + 1, ⟨⟨x1, x2⟩, x3⟩, .nil, ⟨by simp -dsimp, by simp -dsimp, by simp -dsimp, by simp -dsimp, by simp -dsimp, by omega, (by simp -dsimp <;> omega), by simp -dsimp [k1, g3, d0, d1, d2, d3, Ne.symm g3], by simp -dsimp [d0, d1, d2, d3], by simp -dsimp, fun j j1 j2 => ?_, hnok, .inl ⟨rfl, hnp⟩⟩, by simp -dsimp, by omega, by simp [hnp]; omega, by omega, by omega, by simp⟩
    simp -dsimp [far (show j < n2 by omega), j2, hox j j1 j2]
  · rintro s ⟨c, id, p', d, P, e, t7, hc4, hpl, hp0, hpc, hend⟩
    obtain ⟨t0, t1, t4, t5, hmu, i0, i1, mz, mid, rd, out, hok, past⟩ := e
    by_cases hc : 0 < c
    case neg =>
      have hc0 : c = 0 := by omega
      simp -dsimp [t7, hc, hc0]
      exact ⟨c, id, p', d, P, ⟨by simp -dsimp [t0], by simp -dsimp [t1], by simp -dsimp [t4], by simp -dsimp [t5], by simp -dsimp [hmu], i0, by simp -dsimp [i1], by simp -dsimp [mz], by simp -dsimp [mid], by simp -dsimp [rd], fun j j1 j2 => by simp -dsimp [out j j1 j2], hok, past⟩, by simp -dsimp [t7], hc4, hpl, hp0, hpc, fun _ => hc0⟩
    have a0 : ¬ rid = id := by omega
    have a1 : ¬ id = rid := by omega
    have a2 : ¬ n = id := by omega
    have a3 : ¬ id = n := by omega
    have a4 : ¬ n = rid := by omega
    have a5 : ¬ rid = n := by omega
    have h1 := far i1
    have h2 := far (show rid < s.n by omega)
    have h3 := far (show n < s.n by omega)
    have wc : IntKind.wrap .i64 ((c : Int) - 1) = ((c - 1 : Nat) : Int) := by rw [w64 (by omega) (by omega)]; omega
    have hmu1 : c - 1 < c := by omega
    have hms : natOf (s.tm 7) = c := by rw [t7]; simp
    have hshort : d.now.story.length ≤ 1000 := by
      rcases hok with h | ⟨rfl, _⟩
      · have := (place_fine (deskOk_iff.1 h).2.1).2.2.2; omega
      · simp [noDeskV]
    simp -dsimp [t7, hc]
    refine twp_cutQ (LD6 m n rid bs k p c) ?_ ?_
    · refine twp_drawT (.run [0, 1, 2, 3] (.alt (.run [4] (.alt (.run [5, 6, 7, 8, 9, 10, 11] .done) (.run [9, 5, 6, 7, 8, 10, 11] .done))) (.run [9, 4, 5, 6, 7, 8, 10, 11] .done))) [id] (List.replicate 12 [0]) (List.replicate 12 [0]) (by kernel_rfl) (by kernel_rfl) (by kernel_rfl) (by kernel_rfl) ?_
      simp -dsimp [t0, t5, t7, mid, rd, h1, h2, h3, a0, a1, a2, a3, a4, a5, nes]
      refine ordT_both ?_ ?_
      · simp -dsimp [t0, t5, t7, mid, rd, h1, h2, h3, a0, a1, a2, a3, a4, a5, nes]
        refine callS_ (deed_zA bs p' (by omega) d.now hshort _ _ rid (by omega) (by simp [rd, h1, h2, h3])) ?_
        rintro t m3 n3 ⟨hn3, ⟨x, ⟨a, ha, rfl⟩, rfl⟩, p3, hp3, hp4, rfl⟩
        obtain ⟨w1, w2, w3⟩ := a
        have b1 := far (show id < n3 by omega)
        have b2 := far (show rid < n3 by omega)
        have b3 := far (show n < n3 by omega)
        have b4 := far (show s.n < n3 + 1 by omega)
        simp -dsimp [t0, t5, t7, mid, rd, h1, h2, h3, a0, a1, a2, a3, a4, a5, nes, b1, b2, b3, b4]
        refine ordT_both ?_ ?_
        · simp -dsimp [t0, t5, t7, mid, rd, h1, h2, h3, a0, a1, a2, a3, a4, a5, nes, b1, b2, b3, b4]
          refine callS_ (deskDoS_any d ⟨w1, w2, w3⟩ P hok (by omega) (by simp only at ha ⊢; omega) _ _ (past.keep (by omega) (by omega) (fun j j1 j2 => by simp [show ¬ j = rid by omega, far (show j < s.n by omega), far (show j < n3 by omega)]))) ?_
          rintro t m4 n4 ⟨hn4, hout4, y0, y1, y2, b, rfl, c0, c1, c2, hy⟩
          have kid := hout4 id (by omega)
          have krid := hout4 rid (by omega)
          have kn := hout4 n (by omega)
          have kout : ∀ j, j < n → j ≠ rid → m4 j = s.m j := fun j j1 j2 => by rw [hout4 j (by omega)]; simp [j2, far (show j < s.n by omega), far (show j < n3 by omega)]
          have kpast : ∀ j, id + 1 ≤ j → j < s.n → m4 j = s.m j := fun j j1 j2 => by rw [hout4 j (by omega)]; simp [show ¬ j = rid by omega, far (show j < s.n by omega), far (show j < n3 by omega)]
          have b5 := far (show id < n4 by omega)
          have b6 := far (show rid < n4 by omega)
          have b7 := far (show n < n4 by omega)
          have b8 := far (show n3 < n4 + 1 by omega)
          have b9 := far (show s.n < n4 + 1 by omega)
          simp -dsimp [t0, t5, t7, mid, rd, h1, h2, h3, a0, a1, a2, a3, a4, a5, nes, b1, b2, b3, b4] at kid krid kn
          simp -dsimp [t0, t5, t7, mid, rd, h1, h2, h3, a0, a1, a2, a3, a4, a5, nes, b1, b2, b3, b4, b5, b6, b7, b8, b9, kid, krid, kn, c0, c1, c2]
          refine st_out fun s' ht hm' hn' hu' => ?_
          have q0 := ht 0
          have q1 := ht 1
          have q4 := ht 4
          have q5 := ht 5
          have q7 := ht 7
          have q8 := ht 8
          have q9 := ht 9
          simp -dsimp [t0, t1, t4, t5, t7] at q0 q1 q4 q5 q7 q8 q9 hm' hn' hu'
          clear ht
          refine ⟨id, n4, p3, d, P, y0, y1, y2, b, ⟨q0, q1, q4, q5, by rw [hu', hmu], i0, by omega, by rw [hm']; simp [kn, mz, b7, a2, a4, h3, b3], by rw [hm']; simp [kid, mid, b5, a1, h1, b1], by rw [hm']; simp [krid, b6, a0, h2, b2], fun j j1 j2 => ?_, hok, ?_⟩, q7, q8, q9, by omega, by omega, by rw [hm']; simp, c0, c1, c2, hpl, by omega, by omega, fun hb => ?_⟩
          · rw [hm']; simp [far (show j < n4 by omega), far (show j < s.n by omega), far (show j < n3 by omega), kout j j1 j2, out j j1 j2]
          · exact past.keep (Nat.le_refl _) (by omega) (fun j j1 j2 => by rw [hm']; simp [far (show j < n4 by omega), far (show j < s.n by omega), far (show j < n3 by omega), kpast j j1 j2])
          · obtain ⟨y, v1, v2, v3, v4, v5⟩ := hy hb
            exact ⟨y, v1, v2, v3, v4.keep (by omega) (by omega) (fun j j1 j2 => by rw [hm']; simp [show ¬ j = n4 by omega]), v5⟩
        · simp -dsimp [t0, t5, t7, mid, rd, h1, h2, h3, a0, a1, a2, a3, a4, a5, nes, b1, b2, b3, b4]
          refine callS_ (deskDoS_any d ⟨w1, w2, w3⟩ P hok (by omega) (by simp only at ha ⊢; omega) _ _ (past.keep (by omega) (by omega) (fun j j1 j2 => by simp [show ¬ j = rid by omega, far (show j < s.n by omega), far (show j < n3 by omega)]))) ?_
          rintro t m4 n4 ⟨hn4, hout4, y0, y1, y2, b, rfl, c0, c1, c2, hy⟩
          have kid := hout4 id (by omega)
          have krid := hout4 rid (by omega)
          have kn := hout4 n (by omega)
          have kout : ∀ j, j < n → j ≠ rid → m4 j = s.m j := fun j j1 j2 => by rw [hout4 j (by omega)]; simp [j2, far (show j < s.n by omega), far (show j < n3 by omega)]
          have kpast : ∀ j, id + 1 ≤ j → j < s.n → m4 j = s.m j := fun j j1 j2 => by rw [hout4 j (by omega)]; simp [show ¬ j = rid by omega, far (show j < s.n by omega), far (show j < n3 by omega)]
          have kn3 := hout4 n3 (by omega)
          simp -dsimp [nes] at kn3
          have b5 := far (show id < n4 by omega)
          have b6 := far (show rid < n4 by omega)
          have b7 := far (show n < n4 by omega)
          have b8 := far (show n3 < n4 + 1 by omega)
          have b9 := far (show s.n < n4 + 1 by omega)
          simp -dsimp [t0, t5, t7, mid, rd, h1, h2, h3, a0, a1, a2, a3, a4, a5, nes, b1, b2, b3, b4] at kid krid kn
          simp -dsimp [t0, t5, t7, mid, rd, h1, h2, h3, a0, a1, a2, a3, a4, a5, nes, b1, b2, b3, b4, b5, b6, b7, b8, b9, kid, krid, kn, kn3, c0, c1, c2]
          refine st_out fun s' ht hm' hn' hu' => ?_
          have q0 := ht 0
          have q1 := ht 1
          have q4 := ht 4
          have q5 := ht 5
          have q7 := ht 7
          have q8 := ht 8
          have q9 := ht 9
          simp -dsimp [t0, t1, t4, t5, t7] at q0 q1 q4 q5 q7 q8 q9 hm' hn' hu'
          clear ht
          refine ⟨id, n3, p3, d, P, y0, y1, y2, b, ⟨q0, q1, q4, q5, by rw [hu', hmu], i0, by omega, by rw [hm']; simp [kn, mz, b7, a2, a4, h3, b3], by rw [hm']; simp [kid, mid, b5, a1, h1, b1], by rw [hm']; simp [krid, b6, a0, h2, b2], fun j j1 j2 => ?_, hok, ?_⟩, q7, q8, q9, by omega, by omega, by rw [hm']; simp, c0, c1, c2, hpl, by omega, by omega, fun hb => ?_⟩
          · rw [hm']; simp [far (show j < n4 by omega), far (show j < s.n by omega), far (show j < n3 by omega), kout j j1 j2, out j j1 j2]
          · exact past.keep (Nat.le_refl _) (by omega) (fun j j1 j2 => by rw [hm']; simp [far (show j < n4 by omega), far (show j < s.n by omega), far (show j < n3 by omega), kpast j j1 j2])
          · obtain ⟨y, v1, v2, v3, v4, v5⟩ := hy hb
            exact ⟨y, v1, v2, v3, v4.keep (by omega) (by omega) (fun j j1 j2 => by rw [hm']; simp [show ¬ j = n3 by omega]), v5⟩
      · simp -dsimp [t0, t5, t7, mid, rd, h1, h2, h3, a0, a1, a2, a3, a4, a5, nes]
        refine callS_ (deed_zA bs p' (by omega) d.now hshort _ _ rid (by omega) (by simp [rd, h1, h2, h3])) ?_
        rintro t m3 n3 ⟨hn3, ⟨x, ⟨a, ha, rfl⟩, rfl⟩, p3, hp3, hp4, rfl⟩
        obtain ⟨w1, w2, w3⟩ := a
        have b1 := far (show id < n3 by omega)
        have b2 := far (show rid < n3 by omega)
        have b3 := far (show n < n3 by omega)
        have b4 := far (show s.n < n3 + 1 by omega)
        simp -dsimp [t0, t5, t7, mid, rd, h1, h2, h3, a0, a1, a2, a3, a4, a5, nes, b1, b2, b3, b4]
        refine callS_ (deskDoS_any d ⟨w1, w2, w3⟩ P hok (by omega) (by simp only at ha ⊢; omega) _ _ (past.keep (by omega) (by omega) (fun j j1 j2 => by simp [show ¬ j = rid by omega, far (show j < s.n by omega), far (show j < n3 by omega)]))) ?_
        rintro t m4 n4 ⟨hn4, hout4, y0, y1, y2, b, rfl, c0, c1, c2, hy⟩
        have kid := hout4 id (by omega)
        have krid := hout4 rid (by omega)
        have kn := hout4 n (by omega)
        have kout : ∀ j, j < n → j ≠ rid → m4 j = s.m j := fun j j1 j2 => by rw [hout4 j (by omega)]; simp [j2, far (show j < s.n by omega), far (show j < n3 by omega)]
        have kpast : ∀ j, id + 1 ≤ j → j < s.n → m4 j = s.m j := fun j j1 j2 => by rw [hout4 j (by omega)]; simp [show ¬ j = rid by omega, far (show j < s.n by omega), far (show j < n3 by omega)]
        have ksn := hout4 s.n (by omega)
        simp -dsimp [nes, h2, b4, a0, Ne.symm] at ksn
        have b5 := far (show id < n4 by omega)
        have b6 := far (show rid < n4 by omega)
        have b7 := far (show n < n4 by omega)
        have b8 := far (show n3 < n4 + 1 by omega)
        have b9 := far (show s.n < n4 + 1 by omega)
        simp -dsimp [t0, t5, t7, mid, rd, h1, h2, h3, a0, a1, a2, a3, a4, a5, nes, b1, b2, b3, b4] at kid krid kn
        simp -dsimp [t0, t5, t7, mid, rd, h1, h2, h3, a0, a1, a2, a3, a4, a5, nes, b1, b2, b3, b4, b5, b6, b7, b8, b9, kid, krid, kn, ksn, c0, c1, c2]
        refine st_out fun s' ht hm' hn' hu' => ?_
        have q0 := ht 0
        have q1 := ht 1
        have q4 := ht 4
        have q5 := ht 5
        have q7 := ht 7
        have q8 := ht 8
        have q9 := ht 9
        simp -dsimp [t0, t1, t4, t5, t7] at q0 q1 q4 q5 q7 q8 q9 hm' hn' hu'
        clear ht
        refine ⟨id, s.n, p3, d, P, y0, y1, y2, b, ⟨q0, q1, q4, q5, by rw [hu', hmu], i0, by omega, by rw [hm']; simp [kn, mz, b7, a2, a4, h3, b3], by rw [hm']; simp [kid, mid, b5, a1, h1, b1], by rw [hm']; simp [krid, b6, a0, h2, b2], fun j j1 j2 => ?_, hok, ?_⟩, q7, q8, q9, by omega, by omega, by rw [hm']; simp, c0, c1, c2, hpl, by omega, by omega, fun hb => ?_⟩
        · rw [hm']; simp [far (show j < n4 by omega), far (show j < s.n by omega), far (show j < n3 by omega), kout j j1 j2, out j j1 j2]
        · exact past.keep (Nat.le_refl _) (by omega) (fun j j1 j2 => by rw [hm']; simp [far (show j < n4 by omega), far (show j < s.n by omega), far (show j < n3 by omega), kpast j j1 j2])
        · obtain ⟨y, v1, v2, v3, v4, v5⟩ := hy hb
          exact ⟨y, v1, v2, v3, v4.keep (by omega) (by omega) (fun j j1 j2 => by rw [hm']; simp [show ¬ j = s.n by omega]), v5⟩
    · rintro s2 ⟨id, id8, p', d, P, y0, y1, y2, b, e, t7, t8, t9, i8, i9, m8, c0, c1, c2, hpl, hp0, hpc, hy⟩
      obtain ⟨t0, t1, t4, t5, hmu, i0, i1, mz, mid, rd, out, hok, past⟩ := e
      have wc : IntKind.wrap .i64 ((c : Int) - 1) = ((c - 1 : Nat) : Int) := by rw [w64 (by omega) (by omega)]; omega
      have hmu1 : c - 1 < c := by omega
      have h1 := far i1
      have h8 := far i9
      have a1 : ¬ id = id8 := by omega
      have a2 : ¬ id8 = id := by omega
      have a3 : ¬ n = id := by omega
      have a4 : ¬ rid = id := by omega
      cases b with
      | false =>
        simp -dsimp [t9, t7, wc, hms, hmu1]
        exact ⟨c - 1, id, p', d, P, ⟨by simp -dsimp [t0], by simp -dsimp [t1], by simp -dsimp [t4], by simp -dsimp [t5], by simp -dsimp [hmu], i0, by simp -dsimp [i1], by simp -dsimp [mz], by simp -dsimp [mid], by simp -dsimp [rd], fun j j1 j2 => by simp -dsimp [out j j1 j2], hok, past⟩, by simp -dsimp, by omega, by omega, hp0, by omega, by simp⟩
      | true =>
        obtain ⟨y, v1, rfl, rfl, v4, v5⟩ := hy rfl
        simp -dsimp [t5, t8, t9, t7, mid, m8, h1, h8, a1, a2, c2, wc, hms, hmu1]
        exact ⟨c - 1, id, p', y, y2, ⟨by simp -dsimp [t0], by simp -dsimp [t1], by simp -dsimp [t4], by simp -dsimp [t5], by simp -dsimp [hmu], i0, (by simp -dsimp <;> omega), by simp -dsimp [mz, a3], by simp -dsimp, by simp -dsimp [rd, a4], fun j j1 j2 => by simp -dsimp [out j j1 j2, show ¬ j = id by omega], .inl v1, v4.keep (Nat.le_refl _) (by simp -dsimp <;> omega) (fun j j1 j2 => by simp -dsimp [show ¬ j = id by omega])⟩, by simp -dsimp, by omega, by omega, hp0, by omega, by simp⟩
  · rintro s ⟨c, id, p', d, P, e, t7, hc4, hpl, hp0, hpc, hend⟩
    obtain ⟨t0, t1, t4, t5, hmu, i0, i1, mz, mid, rd, out, hok, past⟩ := e
    have a0 : ¬ rid = id := by omega
    have a1 : ¬ id = rid := by omega
    have a2 : ¬ n = id := by omega
    have a3 : ¬ id = n := by omega
    have a4 : ¬ n = rid := by omega
    have a5 : ¬ rid = n := by omega
    have h1 := far i1
    have h2 := far (show rid < s.n by omega)
    have h3 := far (show n < s.n by omega)
    have hPc := past.cell
    simp -dsimp [t0, t1]
    refine callS_ (odd_at bs p' (by omega) k (by omega) _ _ rid (by simp [rd])) ?_
    rintro t m3 n3 ⟨hn3, ⟨b, rfl, _⟩, p2, hp1, hp2, rfl⟩
    have b1 := far (show id < n3 by omega)
    have b2 := far (show rid < n3 by omega)
    have b3 := far (show n < n3 by omega)
    have hsm : d.small ∧ d.fit ∧ d.now.story.length ≤ 1000 ∧ d.past.length ≤ 8 := by
      rcases hok with h | ⟨rfl, _⟩
      · have := (place_fine (deskOk_iff.1 h).2.1).2.2.2
        exact ⟨(desk_fine h).1, (desk_fine h).2.1, by omega, (desk_fine h).2.2.1⟩
      · exact ⟨⟨⟨by simp [noDeskV], by simp [noDeskV]⟩, by simp [noDeskV], by simp [noDeskV]⟩, ⟨⟨by simp [noDeskV, fit], by simp [noDeskV]⟩, by simp [noDeskV]⟩, by simp [noDeskV], by simp [noDeskV]⟩
    obtain ⟨s1, s2, s3, s4⟩ := hsm
    cases b with
    | false =>
      simp -dsimp [t4, t5, mid, mz, h1, h2, h3, a0, a1, a2, a3, a4, a5, b1, b2, b3, hPc]
      refine ⟨by omega, ⟨_, desk_bor (past.bor (fun j j1 j2 => by simp [show n ≤ j by omega, show ¬ j = n by omega, show ¬ j = rid by omega]) 2), d, s1, s2, s3, rfl⟩, fun j j1 j2 => ?_, p2, by omega, by omega, ?_⟩
      · simp [show ¬ j = n by omega, j2, out j j1 j2]
      · simp [show ¬ rid = n by omega]
    | true =>
      simp -dsimp [t0, t4, t5, mid, mz, h1, h2, h3, a0, a1, a2, a3, a4, a5, b1, b2, b3, hPc]
      refine callS_ (pick_at bs p2 (by omega) _ _ _ rid (by simp)) ?_
      rintro t m4 n4 ⟨hn4, ⟨r, rfl, hr0, hr1⟩, rfl⟩
      have g1 := far (show id < n4 by omega)
      have g2 := far (show rid < n4 by omega)
      have g3 := far (show n < n4 by omega)
      by_cases r0 : r = 0
      · simp -dsimp [r0, t0, t4, t5, mid, mz, h1, h2, h3, a0, a1, a2, a3, a4, a5, b1, b2, b3, g1, g2, g3, hPc]
        refine ⟨by omega, ⟨_, desk_bor (past.bor (fun j j1 j2 => by simp [show n ≤ j by omega, show ¬ j = n by omega, show ¬ j = id by omega, show ¬ j = rid by omega]) 2), ⟨⟨0, d.now.story⟩, d.past⟩, ⟨s1.1, s1.2⟩, ⟨⟨by simp [fit], s2.1.2⟩, s2.2⟩, s3, rfl⟩, fun j j1 j2 => ?_, p2 + 1, by omega, by omega, ?_⟩
        · simp [show ¬ j = n by omega, show ¬ j = id by omega, j2, out j j1 j2]
        · simp [show ¬ rid = n by omega, show ¬ rid = id by omega]
      · by_cases r1 : r = 1
        · rcases past with ⟨rfl, hs0⟩ | ⟨pid, ex, rfl, hi0, hi1, him⟩
          · simp -dsimp [r0, r1, t0, t4, t5, mid, mz, h1, h2, h3, a0, a1, a2, a3, a4, a5, b1, b2, b3, g1, g2, g3, hPc, hmu, nes]
            refine ⟨by omega, ⟨_, desk_bor (row_plus (l := []) (by simp [show n ≤ n4 + 1 by omega, show ¬ n4 + 1 = n by omega, show ¬ n4 + 1 = id by omega, nes, plT])), ⟨d.now, [⟨0, []⟩]⟩, ⟨s1.1, by simp, by simp [Place.small]⟩, ⟨s2.1, by simp [Place.fit, fit]⟩, s3, rfl⟩, fun j j1 j2 => ?_, p2 + 1, by omega, by omega, ?_⟩
            · simp [show ¬ j = n by omega, show ¬ j = id by omega, far (show j < n4 by omega), j2, out j j1 j2]
            · simp [show ¬ rid = n by omega, show ¬ rid = id by omega, g2]
          · have c0 : ¬ pid = rid := by omega
            have c1 : ¬ pid = id := by omega
            have c2 : ¬ pid = n := by omega
            have g4 := far (show pid < n4 by omega)
            have fb : (d.past.length + 1) * 32 ≤ 140737488355328 := by omega
            simp -dsimp [r0, r1, t0, t4, t5, mid, mz, h1, h2, h3, a0, a1, a2, a3, a4, a5, b1, b2, b3, g1, g2, g3, g4, hPc, hmu, nes, him, c0, c1, c2, Ne.symm c0, Ne.symm c1, Ne.symm c2, fb]
            refine ⟨by omega, ⟨_, desk_bor (row_plus (l := d.past) (by simp [show n ≤ n4 + 1 by omega, show ¬ n4 + 1 = n by omega, show ¬ n4 + 1 = id by omega, nes])), ⟨d.now, d.past ++ [⟨0, []⟩]⟩, ⟨s1.1, by simp; omega, fun p hp => ?_⟩, ⟨s2.1, fun p hp => ?_⟩, s3, rfl⟩, fun j j1 j2 => ?_, p2 + 1, by omega, by omega, ?_⟩
            · rcases List.mem_append.1 hp with h | h
              · exact s1.2.2 p h
              · rw [List.mem_singleton.1 h]; simp [Place.small]
            · rcases List.mem_append.1 hp with h | h
              · exact s2.2 p h
              · rw [List.mem_singleton.1 h]; simp [Place.fit, fit]
            · simp [show ¬ j = n by omega, show ¬ j = id by omega, show ¬ j = pid by omega, far (show j < n4 by omega), j2, out j j1 j2]
            · simp [show ¬ rid = n by omega, show ¬ rid = id by omega, show ¬ rid = pid by omega, g2]
        · simp -dsimp [r0, r1, t0, t4, t5, mid, mz, h1, h2, h3, a0, a1, a2, a3, a4, a5, b1, b2, b3, g1, g2, g3, hPc]
          refine ⟨by omega, ⟨Desk.v ⟨⟨0, []⟩, []⟩, by simp, ⟨⟨0, []⟩, []⟩, ⟨by simp [Place.small], by simp, by simp⟩, ⟨by simp [Place.fit, fit], by simp⟩, by simp, rfl⟩, fun j j1 j2 => ?_, p2 + 1, by omega, by omega, ?_⟩
          · simp [show ¬ j = n by omega, j2, out j j1 j2]
          · simp [show ¬ rid = n by omega]
end TL

/- Drawn desks with deeds. -/
set_option linter.unusedSimpArgs false
set_option linter.unusedVariables false
set_option maxRecDepth 100000
set_option maxHeartbeats 4000000
set_option pp.maxSteps 1500
namespace TL
open Go Go.Proofs
attribute [local simp] marksV storyV codeV Claim.v Place.v Deed.v Desk.v
theorem deeds_zX (bs : List UInt8) (p : Nat) (hp : p < 500000000) (q : Place) (hq : q.story.length ≤ 1000) (X : T) (hX : X.cells = [.v (.int .i64 q.people), .v (storyV q.story)]) (m : Mem) (n rid : Nat) (hr : rid < n) (hm : m rid = some (rdB bs p)) :
    FnS Tryz.prog 62 m n [.ptr rid 0, X] (Draws SomeDeeds0 700 m n rid bs p) := by
  refine Draws_of hr ⟨_, Tryz.func62, rfl, rfl⟩ fun hfr => ?_
  refine FnS_of (rs := [.tmp 4]) false Tryz.func62 rfl rfl rfl rfl (Nat.le_of_ble_eq_true rfl) ?_
  have f1 := far hr
  simp -dsimp [hX]
  refine callS_ (pick_at bs p (by omega) _ _ _ rid (by simp [hm, f1])) ?_
  rintro t m1 n1 ⟨hn1, ⟨r, rfl, hr0, hr1⟩, rfl⟩
  have hr1 := hr1 (by decide)
  obtain ⟨r, rfl⟩ := Int.eq_ofNat_of_zero_le hr0
  have f2 := far (show rid < n1 by omega)
  have f3 := far (show n < n1 by omega)
  simp -dsimp
  refine twp_loopC (DLI m n rid bs p q 0) (fun s => natOf (s.tm 6)) (DLI m n rid bs p q 1) ?_ ?_ ?_
  · refine ⟨r, n + 1, p + 1, [], by simp -dsimp, by simp -dsimp, by simp -dsimp [f1], by simp -dsimp, by simp -dsimp, by simp -dsimp, by omega, by simp -dsimp <;> omega, by simp -dsimp [f1], by simp; omega, by omega, by omega, by simp, by simp -dsimp [f1], fun j j1 j2 => ?_, by simp⟩
    simp -dsimp [far j1, j2]
  · rintro s ⟨c, id, p', l, t0, t3, m0, t5, t6, hmu, hid0, hid, mid, hlc, hp0, hp1, hw, mrd, hout, hend⟩
    by_cases hc : 0 < c
    case neg =>
      have hc0 : c = 0 := by omega
      simp -dsimp [t6, hc, hc0]
      exact ⟨c, id, p', l, by simp -dsimp [t0], by simp -dsimp [t3], by simp -dsimp [m0], by simp -dsimp [t5], by simp -dsimp [t6], by simp -dsimp [hmu], hid0, by simp -dsimp [hid], by simp -dsimp [mid], hlc, hp0, hp1, hw, by simp -dsimp [mrd], fun j j1 j2 => by simp -dsimp [hout j j1 j2], fun _ => hc0⟩
    have d0 : ¬ rid = id := by omega
    have d1 : ¬ id = rid := by omega
    have d2 : ¬ n = id := by omega
    have d3 : ¬ n = rid := by omega
    have d4 : ¬ id = n := by omega
    have h1 := far hid
    have h2 := far (show rid < s.n by omega)
    have h3 := far (show n < s.n by omega)
    have wc : IntKind.wrap .i64 ((c : Int) - 1) = ((c - 1 : Nat) : Int) := by rw [w64 (by omega) (by omega)]; omega
    have hmu1 : c - 1 < c := by omega
    have b1 : (l.length + 1) * 32 ≤ 140737488355328 := by omega
    simp -dsimp [t0, t3, t5, t6, m0, hc]
    refine callS_ (deed_zA bs p' (by omega) q hq _ _ rid (by omega) (by simp [mrd])) ?_
    rintro t m2 n2 ⟨hn2, ⟨x, ⟨a, ha, rfl⟩, rfl⟩, p3, hp3, hp4, rfl⟩
    have h4 := far (show id < n2 by omega)
    have h5 := far (show rid < n2 by omega)
    have h6 := far (show n < n2 by omega)
    simp -dsimp [t0, t3, t5, t6, hmu, mid, d0, d1, d2, d3, d4, h4, h5, h6, b1, wc, hmu1, nes]
    refine st_out fun s' ht hm' hn' hu' => ?_
    have a0 := ht 0
    have a3 := ht 3
    have a5 := ht 5
    have a6 := ht 6
    simp -dsimp [t0, t3, wc] at a0 a3 a5 a6 hm' hn' hu'
    clear ht
    refine ⟨c - 1, _, p3, l ++ [a], a0, a3, by simp [hm', d2, d3, h6, m0], a5, a6, by rw [hu', hmu], by omega, by omega, ?_, by simp; omega, by omega, by omega, fun b hb => ?_, by simp [hm', d0, h5], fun j j1 j2 => ?_, by simp⟩
    · simp [hm', nes]
    · rcases List.mem_append.1 hb with hb | hb
      · exact hw b hb
      · rw [List.mem_singleton.1 hb]; exact ha
    · simp [hm', show ¬ j = id by omega, far (show j < n2 by omega), j2, hout j j1 j2]
  · rintro s ⟨c, id, p', l, t0, t3, m0, t5, t6, hmu, hid0, hid, mid, hlc, hp0, hp1, hw, mrd, hout, hend⟩
    simp -dsimp [t5]
    refine ⟨by omega, ⟨_, by simp -dsimp [mid, show n ≤ id by omega], l, by omega, hw, rfl⟩, hout, p', by omega, by omega, mrd⟩
def SomeDeskDeeds (x : V) : Prop := ∃ (d : Desk) (l : List Deed), d.small ∧ d.fit ∧ l.length ≤ 41 ∧ (∀ a ∈ l, a.words.length ≤ 200) ∧ x = .tup [d.v, .sl (l.map Deed.v)]
def noDeeds : List Deed := List.replicate 41 ⟨0, 0, []⟩
theorem noDeeds_bor {mm : Mem} {id : Nat} (h : mm id = some (.box 53 3 ((List.replicate 41 [T.v (.int .i64 0), .v (.int .i64 0), .v (.str [])]).flatten))) : bor true mm 3 (.sv id 0 41) = some (.sl (noDeeds.map Deed.v)) := by
  show (match mm id with | some (.box _ z cs) => tst (0 + 41 * z ≤ cs.length) (obind (mapO (TL.bor true mm 2) ((cs.drop 0).take (41 * z))) fun xs => tst (∀ x ∈ xs, x.cell = true) (some (V.sl (chunk z 41 xs)))) | _ => none) = _
  rw [h]
  rfl
theorem desk_deeds_bor {mm : Mem} {d : Desk} {id : Nat} (h : mm id = some (.box 53 3 ((List.replicate 41 [T.v (.int .i64 0), .v (.int .i64 0), .v (.str [])]).flatten))) :
    bor true mm 4 (.tup [.agg [.v (.int .i64 d.now.people), .v (.sl (d.now.story.map Claim.v)), .v (.sl (d.past.map Place.v))], .sv id 0 41]) = some (.tup [d.v, .sl (noDeeds.map Deed.v)]) := by
  have hb := noDeeds_bor h
  simp [hb]
theorem drawDeskRun_z (bs : List UInt8) (m : Mem) (n : Nat) : FnS Tryz.prog 33 m n [.v (codeV bs)] (Drawn SomeDeskDeeds m n) := by
  refine Drawn_of ⟨_, Tryz.func33, rfl, rfl⟩ fun hfr => ?_
  refine FnS_of (rs := [.cell 2 40, .tmp 3]) true Tryz.func33 rfl rfl rfl rfl (Nat.le_of_ble_eq_true rfl) ?_
  simp -dsimp
  refine callS_ (open_at bs _ _) ?_
  rintro t m1 n1 ⟨rfl, rfl, rfl⟩
  simp -dsimp
  refine callS_ (desk_z (bs.take 2000) 0 (by omega) 12 (by omega) (by omega) _ _ _ (by omega) (by simp)) ?_
  rintro t m2 n2 ⟨hn2, ⟨x, ⟨d, s1, s2, s3, rfl⟩, rfl⟩, p2, hp1, hp2, rfl⟩
  have f0 := far (show n < n2 by omega)
  have f1 := far (show n + 1 < n2 by omega)
  simp -dsimp [f0, f1, nes]
  refine callS_ (odd_at (bs.take 2000) p2 (by omega) 30 (by omega) _ _ (n + 1) (by simp [f0, f1, nes])) ?_
  rintro t m3 n3 ⟨hn3, ⟨b, rfl, _⟩, p3, hp3, hp4, rfl⟩
  have g0 := far (show n < n3 by omega)
  have g1 := far (show n + 1 < n3 by omega)
  have g2 := far (show n2 < n3 by omega)
  have z0 : ¬ n2 = n + 1 := by omega
  have z1 : ¬ n2 = n := by omega
  cases b with
  | true =>
    simp -dsimp [f0, f1, g0, g1, g2, z0, z1, nes]
    refine twp_drawT (.run [0] (.alt (.run [1, 2, 3] .done) (.run [2, 1, 3] .done))) [n2] (List.replicate 4 [0]) (List.replicate 4 [0]) (by kernel_rfl) (by kernel_rfl) (by kernel_rfl) (by kernel_rfl) ?_
    simp -dsimp [f0, f1, g0, g1, g2, z0, z1, nes]
    refine ordT_both ?_ ?_
    · simp -dsimp [f0, f1, g0, g1, g2, z0, z1, nes]
      refine ⟨by omega, ⟨.tup [d.v, .sl (noDeeds.map Deed.v)], ?_, d, noDeeds, s1, s2, by simp [noDeeds], fun a ha => ?_, rfl⟩, fun j j1 => ?_⟩
      · refine desk_deeds_bor (d := d) (id := n3) ?_
        simp [show n ≤ n3 by omega, nes, show ¬ n3 = n by omega]
      · rw [List.eq_of_mem_replicate ha]; simp
      · simp [far j1, show ¬ j = n by omega, show ¬ j = n + 1 by omega, show ¬ j = n2 by omega, far (show j < n3 by omega)]
    · simp -dsimp [f0, f1, g0, g1, g2, z0, z1, nes]
      refine ⟨by omega, ⟨.tup [d.v, .sl (noDeeds.map Deed.v)], ?_, d, noDeeds, s1, s2, by simp [noDeeds], fun a ha => ?_, rfl⟩, fun j j1 => ?_⟩
      · refine desk_deeds_bor (d := d) (id := n3 + 1) ?_
        simp [show n ≤ n3 + 1 by omega, nes, show ¬ n3 + 1 = n by omega]
      · rw [List.eq_of_mem_replicate ha]; simp
      · simp [far j1, show ¬ j = n by omega, show ¬ j = n + 1 by omega, show ¬ j = n2 by omega, far (show j < n3 by omega)]
  | false =>
    simp -dsimp [f0, f1, g0, g1, g2, z0, z1, nes]
    refine twp_draw [0, 1, 2, 3, 4, 5, 6] [n2] (List.replicate 7 [0]) (List.replicate 7 [0]) (by kernel_rfl) (by kernel_rfl) (by kernel_rfl) (by kernel_rfl) ?_
    simp -dsimp [f0, f1, g0, g1, g2, z0, z1, nes]
    refine callS_ (deeds_zX (bs.take 2000) p3 (by omega) d.now s3 _ (by rfl) _ _ (n + 1) (by omega) (by simp [f0, f1, g0, g1, nes])) ?_
    rintro t m4 n4 ⟨hn4, ⟨x, ⟨l, l1, l2, rfl⟩, rfl⟩, p4, hp5, hp6, rfl⟩
    have k0 := far (show n < n4 by omega)
    have k1 := far (show n + 1 < n4 by omega)
    have k2 := far (show n2 < n4 by omega)
    simp -dsimp [f0, f1, g0, g1, g2, k0, k1, k2, z0, z1, nes]
    refine ⟨by omega, ⟨_, by simp <;> rfl, d, l, s1, s2, by omega, l2, rfl⟩, fun j j1 => ?_⟩
    simp [far j1, show ¬ j = n by omega, show ¬ j = n + 1 by omega, show ¬ j = n2 by omega]
end TL

/- Whatever is done, it is a place: the law of DeskRun. -/
set_option linter.unusedSimpArgs false
set_option linter.unusedVariables false
set_option maxRecDepth 100000
set_option maxHeartbeats 4000000
set_option pp.maxSteps 1500
namespace TL
open Go Go.Proofs
attribute [local simp] marksV storyV codeV Claim.v Place.v Desk.v Deed.v
theorem run_small {d : Desk} {l : List Deed} : (deskRun d l).1.small := by
  unfold deskRun; split
  · rename_i h; exact (desk_fine (doAll_ok l d h.1)).1
  · exact ⟨⟨by simp [noDeskV], by simp [noDeskV]⟩, by simp [noDeskV], by simp [noDeskV]⟩
theorem run_halves {d : Desk} {l : List Deed} (hk : deskOk d = true) (hl : l.length ≤ 40) (k : Nat) : (deskRun (deskRun d (l.take k)).1 (l.drop k)).1 = (deskRun d l).1 ∧ (deskRun d (l.take k)).2 + (deskRun (deskRun d (l.take k)).1 (l.drop k)).2 = (deskRun d l).2 ∧ deskOk (deskRun d l).1 = true := by
  have e1 : deskRun d l = doAll d l := if_pos ⟨hk, hl⟩
  have e2 : deskRun d (l.take k) = doAll d (l.take k) := if_pos ⟨hk, by simp; omega⟩
  have e3 : deskRun (doAll d (l.take k)).1 (l.drop k) = doAll (doAll d (l.take k)).1 (l.drop k) := if_pos ⟨doAll_ok _ _ hk, by simp; omega⟩
  rw [e1, e2, e3]
  have := doAll_append d (l.take k) (l.drop k)
  rw [List.take_append_drop] at this
  rw [this]
  refine ⟨rfl, rfl, ?_⟩
  exact doAll_ok _ _ (doAll_ok _ _ hk)
theorem lawDeskRun (bs : List UInt8) : FnZ Tryz.prog 8 [codeV bs] (.bool true) := by
  refine FnZ_of (rs := [.tmp 2]) false Tryz.func8 rfl rfl rfl rfl (Nat.le_of_ble_eq_true rfl) ?_
  by_cases h : (1048576 : Int) < bs.length
  · simp -dsimp [nes, nes8, nes9, h]
  simp -dsimp [nes, nes8, nes9, h]
  refine callS_ (drawDeskRun_z bs _ _) ?_
  rintro t m1 n1 ⟨hn1, ⟨x, ⟨d, l, hd, hf, hl, hw, rfl⟩, rfl⟩, rfl⟩
  have hw' : ∀ a ∈ l, a.words.length ≤ 1000000000 := fun a ha => by have := hw a ha; omega
  have h1 := deskRun_fn d l hd hw'
  have h2 := deskRunS_fn d l hd hf hw'
  have h3 := deskOkS_fn d hd hf
  have h4 := sameDesk_fn (deskRun d l).1 (deskRun d l).1 run_small
  have hlen : (deskRun d l).2 ≤ l.length := by
    unfold deskRun; split
    · exact doAll_len l d
    · exact Nat.zero_le _
  by_cases hg : deskOk d = true ∧ l.length ≤ 40
  case neg =>
    have e : deskRun d l = (noDeskV, 0) := if_neg hg
    have h5 := noDesk_fn noDeskV ⟨⟨by simp [noDeskV], by simp [noDeskV]⟩, by simp [noDeskV], by simp [noDeskV]⟩
    rw [e] at h1 h2 h4
    have hg' : deskOk d = false ∨ (deskOk d = true ∧ (40 : Int) < l.length) := by
      cases ho : deskOk d
      · exact .inl rfl
      · exact .inr ⟨rfl, by have : ¬ l.length ≤ 40 := fun h => hg ⟨ho, h⟩; omega⟩
    clear e hg hlen hd hf
    generalize deskOk d = o at *
    obtain ⟨⟨d1, d2⟩, d3⟩ := d
    simp -dsimp [nes, nes8, nes9]
    refine call_ h1 (by simp -dsimp) ?_
    simp -dsimp [nes, nes8, nes9]
    refine call_ h2 (by simp -dsimp) ?_
    simp -dsimp [nes, nes8, nes9]
    refine call_ h4 (by simp -dsimp) ?_
    simp -dsimp [nes, nes8, nes9]
    refine call_ h3 (by simp -dsimp) ?_
    rcases hg' with rfl | ⟨rfl, h40⟩
    · simp -dsimp [nes, nes8, nes9]
      refine call_ h5 (by simp -dsimp) ?_
      simp -dsimp [nes, nes8, nes9]
      refine call_ alive_fn (by simp -dsimp) ?_
      simp -dsimp [nes, nes8, nes9]
    · have h40' : 40 < l.length := by omega
      simp -dsimp [nes, nes8, nes9, h40, h40']
      refine call_ h5 (by simp -dsimp) ?_
      simp -dsimp [nes, nes8, nes9]
      refine call_ alive_fn (by simp -dsimp) ?_
      simp -dsimp [nes, nes8, nes9]
  obtain ⟨hk, h40⟩ := hg
  obtain ⟨r1, r2, r3⟩ := run_halves hk h40 (l.length / 2)
  have hq : IntKind.wrap .i64 ((l.length : Int) / 2) = (l.length : Int) / 2 := w64 (by omega) (by omega)
  have wq : ((l.length : Int) / 2).toNat = l.length / 2 := by omega
  have tkl : (l.map Deed.v).take l.length = l.map Deed.v := List.take_of_length_le (by simp)
  have lh1 : (0 : Int) ≤ (l.length : Int) / 2 := by omega
  have lh2 : (l.length : Int) / 2 ≤ l.length := by omega
  have f1 := deskRun_fn d (l.take (l.length / 2)) hd (fun a ha => hw' a (List.mem_of_mem_take ha))
  have f2 := deskRun_fn (deskRun d (l.take (l.length / 2))).1 (l.drop (l.length / 2)) run_small (fun a ha => hw' a (List.mem_of_mem_drop ha))
  have f3 := deskOk_fn (deskRun d l).1 (by have := (run_small (d := d) (l := l)).2.1; omega) (by have := (run_small (d := d) (l := l)).1.1; omega) (fun p hp => by have := ((run_small (d := d) (l := l)).2.2 p hp).1; omega)
  have lh : l.length / 2 ≤ l.length := by omega
  rw [r1] at f2
  rw [r3] at f3
  rw [hk] at h3
  have wp : IntKind.wrap .i64 (((deskRun d (l.take (l.length / 2))).2 : Int) + ((deskRun (deskRun d (l.take (l.length / 2))).1 (l.drop (l.length / 2))).2 : Int)) = ((deskRun d l).2 : Int) := by rw [w64 (by omega) (by omega)]; omega
  have h40' : ¬ (40 : Int) < l.length := by omega
  have h40'' : ¬ 40 < l.length := by omega
  rw [List.map_take] at f1
  rw [List.map_drop] at f2
  clear r1 r2 r3 hlen
  generalize (deskRun (deskRun d (l.take (l.length / 2))).1 (l.drop (l.length / 2))).2 = q2 at *
  generalize deskRun d (l.take (l.length / 2)) = A at *
  generalize deskRun d l = R at *
  clear hk hd hf
  obtain ⟨⟨d1, d2⟩, d3⟩ := d
  obtain ⟨⟨⟨A1, A2⟩, A3⟩, q1⟩ := A
  obtain ⟨⟨⟨R1, R2⟩, R3⟩, q3⟩ := R
  simp -dsimp [nes, nes8, nes9]
  refine call_ h1 (by simp -dsimp) ?_
  simp -dsimp [nes, nes8, nes9]
  refine call_ h2 (by simp -dsimp) ?_
  simp -dsimp [nes, nes8, nes9]
  refine call_ h4 (by simp -dsimp) ?_
  simp -dsimp [nes, nes8, nes9]
  refine call_ h3 (by simp -dsimp) ?_
  simp -dsimp [nes, nes8, nes9, h40', h40'', hq, wq, lh, lh1, lh2]
  refine twp_drawT (.run [0, 1, 2, 3] (.alt (.run [4, 5, 6, 7, 8, 9, 10] .done) (.run [8, 4, 5, 6, 7, 9, 10] .done))) [n1] (List.replicate 11 [0]) (List.replicate 11 [0]) (by kernel_rfl) (by kernel_rfl) (by kernel_rfl) (by kernel_rfl) ?_
  simp -dsimp [nes, nes8, nes9, hq, wq, lh, lh1, lh2]
  refine ordT_both ?_ ?_
  · simp -dsimp [nes, nes8, nes9, hq, wq, lh, lh1, lh2]
    refine call_ f1 (by simp -dsimp) ?_
    simp -dsimp [nes, nes8, nes9, hq, wq, lh, lh1, lh2]
    refine twp_drawT (.run [0, 1, 2, 3] (.alt (.run [4, 5, 6, 7, 8, 9, 10] .done) (.run [8, 4, 5, 6, 7, 9, 10] .done))) [n1 + 1 + 1 + 1 + 1 + 1 + 1] (List.replicate 11 [0]) (List.replicate 11 [0]) (by kernel_rfl) (by kernel_rfl) (by kernel_rfl) (by kernel_rfl) ?_
    simp -dsimp [nes, nes8, nes9, hq, wq, lh, lh1, lh2]
    refine ordT_both ?_ ?_
    · simp -dsimp [nes, nes8, nes9, hq, wq, lh, lh1, lh2]
      refine call_ f2 (by simp -dsimp [tkl]) ?_
      simp -dsimp [nes, nes8, nes9, hq, wq, lh, lh1, lh2]
      refine call_ f3 (by simp -dsimp) ?_
      simp -dsimp [nes, nes8, nes9, hq, wq, lh, lh1, lh2]
      refine call_ h4 (by simp -dsimp) ?_
      simp -dsimp [nes, nes8, nes9, hq, wq, lh, lh1, lh2, wp]
    · simp -dsimp [nes, nes8, nes9, hq, wq, lh, lh1, lh2]
      refine call_ f2 (by simp -dsimp [tkl]) ?_
      simp -dsimp [nes, nes8, nes9, hq, wq, lh, lh1, lh2]
      refine call_ f3 (by simp -dsimp) ?_
      simp -dsimp [nes, nes8, nes9, hq, wq, lh, lh1, lh2]
      refine call_ h4 (by simp -dsimp) ?_
      simp -dsimp [nes, nes8, nes9, hq, wq, lh, lh1, lh2, wp]
  · simp -dsimp [nes, nes8, nes9, hq, wq, lh, lh1, lh2]
    refine call_ f1 (by simp -dsimp) ?_
    simp -dsimp [nes, nes8, nes9, hq, wq, lh, lh1, lh2]
    refine twp_drawT (.run [0, 1, 2, 3] (.alt (.run [4, 5, 6, 7, 8, 9, 10] .done) (.run [8, 4, 5, 6, 7, 9, 10] .done))) [n1 + 1 + 1 + 1 + 1 + 1 + 1] (List.replicate 11 [0]) (List.replicate 11 [0]) (by kernel_rfl) (by kernel_rfl) (by kernel_rfl) (by kernel_rfl) ?_
    simp -dsimp [nes, nes8, nes9, hq, wq, lh, lh1, lh2]
    refine ordT_both ?_ ?_
    · simp -dsimp [nes, nes8, nes9, hq, wq, lh, lh1, lh2]
      refine call_ f2 (by simp -dsimp [tkl]) ?_
      simp -dsimp [nes, nes8, nes9, hq, wq, lh, lh1, lh2]
      refine call_ f3 (by simp -dsimp) ?_
      simp -dsimp [nes, nes8, nes9, hq, wq, lh, lh1, lh2]
      refine call_ h4 (by simp -dsimp) ?_
      simp -dsimp [nes, nes8, nes9, hq, wq, lh, lh1, lh2, wp]
    · simp -dsimp [nes, nes8, nes9, hq, wq, lh, lh1, lh2]
      refine call_ f2 (by simp -dsimp [tkl]) ?_
      simp -dsimp [nes, nes8, nes9, hq, wq, lh, lh1, lh2]
      refine call_ f3 (by simp -dsimp) ?_
      simp -dsimp [nes, nes8, nes9, hq, wq, lh, lh1, lh2]
      refine call_ h4 (by simp -dsimp) ?_
      simp -dsimp [nes, nes8, nes9, hq, wq, lh, lh1, lh2, wp]
end TL

/- By any way it is the same place: in plain words. -/
set_option linter.unusedSimpArgs false
set_option linter.unusedVariables false
set_option maxRecDepth 100000
set_option maxHeartbeats 4000000
set_option pp.maxSteps 1500
namespace TL
open Go Go.Proofs
/-- A store, its desk, and another store of the same place. -/
structure WayInv (s z : Store) (d : Desk) : Prop where
  ok : storeOk s = true
  full : (readJ s.log).2 = s.log.length
  desk : opened s = d
  ok2 : storeOk z = true
  full2 : (readJ z.log).2 = z.log.length
  now : (opened z).now = d.now
  short : z.log.length ≤ s.log.length
theorem way_start {s : Store} (hs : storeOk s = true) : WayInv (storeMend s) (storeSave (storeMend s)) (opened (storeMend s)) := by
  obtain ⟨m1, m2, m3, m4, m5⟩ := mend_done hs
  obtain ⟨a1, a2, a3, a4⟩ := save_done m1
  refine ⟨m1, by rw [m2], rfl, a1, ?_, by rw [a2], ?_⟩
  · rw [a4, readJ_nil]; rfl
  · rw [a4]; simp
theorem way_save {s z : Store} {d : Desk} (h : WayInv s z d) : WayInv s (storeSave z) d := by
  obtain ⟨a1, a2, a3, a4⟩ := save_done h.ok2
  refine ⟨h.ok, h.full, h.desk, a1, ?_, by rw [a2]; exact h.now, ?_⟩
  · rw [a4, readJ_nil]; rfl
  · rw [a4]; simp
theorem way_save' {s : Store} {d : Desk} (h1 : storeOk s = true) (h2 : (readJ s.log).2 = s.log.length) (h3 : opened s = d) : WayInv s (storeSave s) d := by
  obtain ⟨a1, a2, a3, a4⟩ := save_done h1
  refine ⟨h1, h2, h3, a1, ?_, by rw [a2, h3], ?_⟩
  · rw [a4, readJ_nil]; rfl
  · rw [a4]; simp
theorem sync_is {s : Store} (h : storeOk s = true) : storeSync s = ⟨s.saved, s.log, s.log.length⟩ ∧ storeOk (storeSync s) = true := by
  have e : storeSync s = ⟨s.saved, s.log, s.log.length⟩ := if_pos h
  obtain ⟨g1, g2, g3, g4⟩ := storeOk_iff.1 h
  exact ⟨e, by rw [e]; exact storeOk_iff.2 ⟨g1, g2, by simp, by simp⟩⟩
theorem way_sync {s z : Store} {d : Desk} (h : WayInv s z d) : WayInv s (storeSync z) d := by
  obtain ⟨e, k⟩ := sync_is h.ok2
  refine ⟨h.ok, h.full, h.desk, k, ?_, ?_, ?_⟩
  · rw [e]; exact h.full2
  · rw [e]; exact h.now
  · rw [e]; exact h.short
theorem way_back {s z : Store} {d : Desk} {a : Deed} (h : WayInv s z d) (ha : actOk s a = true) : WayInv (storeAct s a) (storeSave (storeAct s a)) (deskDo d a).1 := by
  obtain ⟨b1, b2, b3, b4, b5, b6⟩ := act_done ha
  exact way_save' b1 (by rw [b2]) (by rw [b3, h.desk])
theorem way_act {s z : Store} {d : Desk} {a : Deed} (h : WayInv s z d) (ha : actOk s a = true) (hk : a.kind ≠ 4) : actOk z a = true ∧ WayInv (storeAct s a) (storeAct z a) (deskDo d a).1 := by
  obtain ⟨b1, b2, b3, b4, b5, b6⟩ := act_done ha
  obtain ⟨c1, c2, c3, c4, c5⟩ := actOk_iff.1 ha
  have hn := deskDo_now (opened_ok h.ok2) (opened_ok h.ok) (by rw [h.now, h.desk]) hk
  have hz : actOk z a = true := actOk_iff.2 ⟨h.ok2, h.full2, by rw [hn.1]; exact c3, c4, by have := h.short; omega⟩
  obtain ⟨e1, e2, e3, e4, e5, e6⟩ := act_done hz
  refine ⟨hz, b1, by rw [b2], by rw [b3, h.desk], e1, by rw [e2], ?_, ?_⟩
  · rw [e3, hn.2, h.desk]
  · have := h.short; omega
end TL

/- By any way it is the same place. -/
set_option linter.unusedSimpArgs false
set_option linter.unusedVariables false
set_option maxRecDepth 100000
set_option maxHeartbeats 4000000
set_option pp.maxSteps 1500
namespace TL
open Go Go.Proofs
attribute [local simp] marksV storyV codeV Claim.v Place.v Store.v Desk.v Deed.v
theorem ok_small {s : Store} (h : storeOk s = true) : s.small := by
  obtain ⟨g1, g2, g3, g4⟩ := storeOk_iff.1 h
  have h1 := placeOf_ok g1
  have h2 := placeTx_len (placeOf s)
  have h3 := (place_fine h1.1).2.2.2
  rw [h1.2.1] at h2
  exact ⟨by omega, by omega⟩
/-- The frame in the loop: p holds the store, q the desk, r the store that is saved on the way. -/
structure WEnv (p q r : Nat) (l : List Deed) (st : S) (s z : Store) (D : Desk) (k : Nat) : Prop where
  t5 : st.tm 5 = .ptr p 0
  t8 : st.tm 8 = .v (.sl (l.map Deed.v))
  t9 : st.tm 9 = .ptr q 0
  t10 : st.tm 10 = .v (.bool true)
  t11 : st.tm 11 = .ptr r 0
  t12 : st.tm 12 = .v (.bool true)
  t13 : st.tm 13 = .v (.int .i64 k)
  pq : p < q
  qr : q < r
  rn : r < st.n
  mp : st.m p = some (.box 25 3 [.v (.str s.saved), .v (.str s.log), .v (.int .i64 s.sure)])
  mq : st.m q = some (.box 40 3 [.v (.int .i64 D.now.people), .v (storyV D.now.story), .v (.sl (D.past.map Place.v))])
  mr : st.m r = some (.box 25 3 [.v (.str z.saved), .v (.str z.log), .v (.int .i64 z.sure)])
def Iw (p q r : Nat) (l : List Deed) (e : Nat) (st : S) : Prop := ∃ (s z : Store) (D : Desk) (k : Nat), WEnv p q r l st s z D k ∧ WayInv s z D ∧ k ≤ l.length ∧ (e = 1 → True)
def W13 (p q r : Nat) (l : List Deed) (s z : Store) (D : Desk) (k : Nat) (x : Store) (b : Bool) (st : S) : Prop := ∃ e, WEnv p q r l st s z D k ∧ st.tm 14 = .ptr e 0 ∧ st.tm 15 = .v (.bool b) ∧ r < e ∧ e < st.n ∧ st.m e = some (.box 25 3 [.v (.str x.saved), .v (.str x.log), .v (.int .i64 x.sure)])
theorem lawStoreSameWay (bs cs : List UInt8) : FnZ Tryz.prog 7 [codeV bs, codeV cs] (.bool true) := by
  refine FnZ_of (rs := [.tmp 4]) false Tryz.func7 rfl rfl rfl rfl (Nat.le_of_ble_eq_true rfl) ?_
  by_cases h : (1048576 : Int) < bs.length
  · simp -dsimp [nes, nes8, nes9, h]
  by_cases h' : (1048576 : Int) < cs.length
  · simp -dsimp [nes, nes8, nes9, h, h']
  simp -dsimp [nes, nes8, nes9, h, h']
  refine callS_ (drawStoreMend_z bs _ _) ?_
  rintro t m1 n1 ⟨hn1, ⟨x, ⟨s0, hs, rfl⟩, rfl⟩, rfl⟩
  have small := hs.small
  have h1 := storeMendS_fn s0 small
  have hk := ft (storeOk s0)
  rcases hk with hk | hk
  · rw [hk, out_mend hk] at h1
    clear hs small
    obtain ⟨s1, s2, s3⟩ := s0
    simp -dsimp [nes, nes8, nes9]
    refine call_ h1 (by simp -dsimp) ?_
    simp -dsimp [nes, nes8, nes9, noStore]
    refine call_ alive_fn (by simp -dsimp) ?_
    simp -dsimp [nes, nes8, nes9]
  have hway := way_start hk
  rw [hk] at h1
  generalize storeMend s0 = s at *
  have ssm := ok_small hway.ok
  have h2 := storeOpen_fn s ssm
  have h3 := storeSave_fn s ssm
  rw [hway.ok, yes_open hway.ok] at h2
  rw [hway.ok] at h3
  generalize storeSave s = z at *
  generalize opened s = D at *
  clear hs small hk ssm
  simp -dsimp [nes, nes8, nes9]
  refine call_ h1 (by simp -dsimp) ?_
  simp -dsimp [nes, nes8, nes9]
  refine callS_ (drawDeskRun_z cs _ _) ?_
  rintro t m2 n2 ⟨hn2, ⟨x, ⟨d0, l, hd, hf, hl, hw, rfl⟩, rfl⟩, rfl⟩
  have hw' : ∀ a ∈ l, a.words.length ≤ 1000000000 := fun a ha => by have := hw a ha; omega
  clear hd hf
  have y0 := far (show n1 < n2 by omega)
  simp -dsimp [nes, nes8, nes9, y0]
  refine call_ h2 (by simp -dsimp) ?_
  simp -dsimp [nes, nes8, nes9, y0]
  refine call_ h3 (by simp -dsimp) ?_
  simp -dsimp [nes, nes8, nes9, y0]
  refine twp_loopC (Iw n1 (n2 + 1 + 1) (n2 + 1 + 1 + 1 + 1) l 0) (fun st => l.length - natOf (st.tm 13)) (Iw n1 (n2 + 1 + 1) (n2 + 1 + 1 + 1 + 1) l 1) ?_ ?_ ?_
  · exact ⟨s, z, D, 0, ⟨by simp -dsimp, by simp -dsimp, by simp -dsimp, by simp -dsimp, by simp -dsimp, by simp -dsimp, by simp -dsimp, by omega, by omega, by simp -dsimp <;> omega, by simp -dsimp [nes, y0], by simp -dsimp [nes, y0], by simp -dsimp [nes, y0]⟩, hway, by omega, by simp⟩
  · rintro st ⟨s, z, D, k, e, hW, hkl, hend⟩
    have f1 := far (show n1 < st.n by have := e.pq; have := e.qr; have := e.rn; omega)
    have f2 := far (show n2 + 1 + 1 < st.n by have := e.qr; have := e.rn; omega)
    have f3 := far e.rn
    have zz : (¬ n2 = st.n) ∧ (¬ n2 + 1 = st.n) ∧ (¬ n2 + 1 + 1 = st.n) ∧ (¬ n2 + 1 + 1 + 1 = st.n) := by have := e.qr; have := e.rn; refine ⟨?_, ?_, ?_, ?_⟩ <;> omega
    by_cases hlt : k < l.length
    case neg =>
      have hlt' : ¬ (k : Int) < l.length := by omega
      simp -dsimp [e.t8, e.t13, hlt, hlt']
      exact ⟨s, z, D, k, ⟨by simp -dsimp [e.t5], by simp -dsimp [e.t8], by simp -dsimp [e.t9], by simp -dsimp [e.t10], by simp -dsimp [e.t11], by simp -dsimp [e.t12], by simp -dsimp [e.t13], e.pq, e.qr, (by have := e.rn; simp -dsimp <;> omega), by simp -dsimp [e.mp], by simp -dsimp [e.mq], by simp -dsimp [e.mr]⟩, hW, hkl, by simp⟩
    by_cases h8 : k < 8
    case neg =>
      have h8' : ¬ (k : Int) < 8 := by omega
      simp -dsimp [e.t8, e.t13, hlt, h8, h8']
      exact ⟨s, z, D, k, ⟨by simp -dsimp [e.t5], by simp -dsimp [e.t8], by simp -dsimp [e.t9], by simp -dsimp [e.t10], by simp -dsimp [e.t11], by simp -dsimp [e.t12], by simp -dsimp [e.t13], e.pq, e.qr, (by have := e.rn; simp -dsimp <;> omega), by simp -dsimp [e.mp], by simp -dsimp [e.mq], by simp -dsimp [e.mr]⟩, hW, hkl, by simp⟩
    have h8' : (k : Int) < 8 := by omega
    have g1 : ¬ n1 = n2 + 1 + 1 := by have := e.pq; omega
    have g2 : ¬ n1 = n2 + 1 + 1 + 1 + 1 := by have := e.pq; omega
    have g3 : ¬ n2 + 1 + 1 = n1 := by have := e.pq; omega
    have g4 : ¬ n2 + 1 + 1 = n2 + 1 + 1 + 1 + 1 := by omega
    have g5 : ¬ n2 + 1 + 1 + 1 + 1 = n1 := by have := e.pq; omega
    have g6 : ¬ n2 + 1 + 1 + 1 + 1 = n2 + 1 + 1 := by omega
    have wi : IntKind.wrap .i64 ((k : Int) + 1) = ((k + 1 : Nat) : Int) := by rw [w64 (by omega) (by omega)]; omega
    have hmu1 : l.length - (k + 1) < l.length - k := by omega
    have hms : natOf (st.tm 13) = k := by rw [e.t13]; simp
    have hget : (l.map Deed.v)[k]? = some (l[k].v) := by simp [hlt]
    have ssm := ok_small hW.ok
    have zsm := ok_small hW.ok2
    have hcall := storeAct_fn s l[k] ssm (hw' _ (List.getElem_mem hlt))
    have hdo := deskDo_fn D l[k] (desk_fine (by rw [← hW.desk]; exact opened_ok hW.ok)).1 (hw' _ (List.getElem_mem hlt))
    have hcall2 := storeAct_fn z l[k] zsm (hw' _ (List.getElem_mem hlt))
    generalize hx : l[k] = a at *
    have hb : actOk s a = true → WayInv (storeAct s a) (storeSave (storeAct s a)) (deskDo D a).1 := fun h => way_back hW h
    have ha : actOk s a = true → a.kind ≠ 4 → actOk z a = true ∧ WayInv (storeAct s a) (storeAct z a) (deskDo D a).1 := fun h h2 => way_act hW h h2
    generalize hxs : storeAct s a = xs at *
    generalize hxz : storeAct z a = xz at *
    generalize deskDo D a = R at *
    have hbb := ft (actOk s a)
    generalize actOk s a = b at *
    generalize actOk z a = bz at *
    obtain ⟨d1, d2, d3⟩ := a
    obtain ⟨R1, R2⟩ := R
    simp -dsimp [e.t8, e.t13, hlt, h8, h8']
    refine twp_cutQ (W13 n1 (n2 + 1 + 1) (n2 + 1 + 1 + 1 + 1) l s z D k xs b) ?_ ?_
    · refine twp_drawT (.run [0, 1, 2, 3, 4] (.alt (.run [5, 6, 7, 8, 9, 10, 11] .done) (.run [9, 5, 6, 7, 8, 10, 11] .done))) [n1] (List.replicate 12 [0]) (List.replicate 12 [0]) (by kernel_rfl) (by kernel_rfl) (by kernel_rfl) (by kernel_rfl) ?_
      simp -dsimp [e.t5, e.t8, e.t9, e.t11, e.t13, e.mp, e.mq, e.mr, f1, f2, f3, g1, g2, g3, g4, g5, g6, zz, nes, hget, hlt, h8, hx]
      refine ordT_both ?_ ?_
      · simp -dsimp [e.t5, e.t8, e.t9, e.t11, e.t13, e.mp, e.mq, e.mr, f1, f2, f3, g1, g2, g3, g4, g5, g6, zz, nes, hget, hlt, h8, hx]
        refine call_ hcall (by simp -dsimp) ?_
        simp -dsimp [e.t5, e.t8, e.t9, e.t11, e.t13, e.mp, e.mq, e.mr, f1, f2, f3, g1, g2, g3, g4, g5, g6, zz, nes, hget, hlt, h8, hx]
        exact ⟨st.n, ⟨by simp -dsimp [e.t5], by simp -dsimp [e.t8], by simp -dsimp [e.t9], by simp -dsimp [e.t10], by simp -dsimp [e.t11], by simp -dsimp [e.t12], by simp -dsimp [e.t13], e.pq, e.qr, (by have := e.rn; simp -dsimp <;> omega), by simp -dsimp [e.mp, f1], by simp -dsimp [e.mq, f2], by simp -dsimp [e.mr, f3]⟩, by simp -dsimp, by simp -dsimp, by have := e.rn; omega, by simp -dsimp <;> omega, by simp -dsimp⟩
      · simp -dsimp [e.t5, e.t8, e.t9, e.t11, e.t13, e.mp, e.mq, e.mr, f1, f2, f3, g1, g2, g3, g4, g5, g6, zz, nes, hget, hlt, h8, hx]
        refine call_ hcall (by simp -dsimp) ?_
        simp -dsimp [e.t5, e.t8, e.t9, e.t11, e.t13, e.mp, e.mq, e.mr, f1, f2, f3, g1, g2, g3, g4, g5, g6, zz, nes, hget, hlt, h8, hx]
        exact ⟨st.n, ⟨by simp -dsimp [e.t5], by simp -dsimp [e.t8], by simp -dsimp [e.t9], by simp -dsimp [e.t10], by simp -dsimp [e.t11], by simp -dsimp [e.t12], by simp -dsimp [e.t13], e.pq, e.qr, (by have := e.rn; simp -dsimp <;> omega), by simp -dsimp [e.mp, f1], by simp -dsimp [e.mq, f2], by simp -dsimp [e.mr, f3]⟩, by simp -dsimp, by simp -dsimp, by have := e.rn; omega, by simp -dsimp <;> omega, by simp -dsimp⟩
    · rintro s2 ⟨id, e, t14, t15, i1, i2, m14⟩
      have f1 := far (show n1 < s2.n by have := e.pq; have := e.qr; have := e.rn; omega)
      have f2 := far (show n2 + 1 + 1 < s2.n by have := e.qr; have := e.rn; omega)
      have f3 := far e.rn
      have f4 := far i2
      have zz : (¬ n2 = s2.n) ∧ (¬ n2 + 1 = s2.n) ∧ (¬ n2 + 1 + 1 = s2.n) ∧ (¬ n2 + 1 + 1 + 1 = s2.n) := by have := e.qr; have := e.rn; refine ⟨?_, ?_, ?_, ?_⟩ <;> omega
      have g7 : ¬ id = n1 := by have := e.pq; have := e.qr; omega
      have g8 : ¬ id = n2 + 1 + 1 := by have := e.qr; omega
      have g9 : ¬ id = n2 + 1 + 1 + 1 + 1 := by omega
      have g10 : ¬ n1 = id := by have := e.pq; have := e.qr; omega
      have g11 : ¬ n2 + 1 + 1 = id := by have := e.qr; omega
      have g12 : ¬ n2 + 1 + 1 + 1 + 1 = id := by omega
      rcases hbb with rfl | rfl
      · simp -dsimp [e.t5, e.t8, e.t9, e.t11, e.t13, t14, t15, e.mp, e.mq, e.mr, m14, f1, f2, f3, f4, g1, g2, g3, g4, g5, g6, g7, g8, g9, g10, g11, g12, zz, nes, hget, hx, wi, hmu1, hms]
        exact ⟨s, z, D, k + 1, ⟨by simp -dsimp [e.t5], by simp -dsimp [e.t8], by simp -dsimp [e.t9], by simp -dsimp [e.t10], by simp -dsimp [e.t11], by simp -dsimp [e.t12], by simp -dsimp, e.pq, e.qr, (by have := e.rn; simp -dsimp <;> omega), by simp -dsimp [e.mp, f1, g1, g2, g3, g4, g5, g6, zz, nes], by simp -dsimp [e.mq, f2, g1, g2, g3, g4, g5, g6, zz, nes], by simp -dsimp [e.mr, f3, g1, g2, g3, g4, g5, g6, zz, nes]⟩, hW, by omega, by simp⟩
      have hb := hb rfl
      have ha := ha rfl
      simp -dsimp [e.t5, e.t8, e.t9, e.t11, e.t13, t14, t15, e.mp, e.mq, e.mr, m14, f1, f2, f3, f4, g1, g2, g3, g4, g5, g6, g7, g8, g9, g10, g11, g12, zz, nes, hget, hx, wi, hmu1, hms]
      refine twp_draw [0, 1, 2, 3, 4, 5, 6, 7, 8, 9] [n2 + 1 + 1] (List.replicate 5 [0] ++ List.replicate 5 []) (List.replicate 9 [0] ++ [[]]) (by kernel_rfl) (by kernel_rfl) (by kernel_rfl) (by kernel_rfl) ?_
      simp -dsimp [List.range_succ, e.t5, e.t8, e.t9, e.t11, e.t13, t14, t15, e.mp, e.mq, e.mr, m14, f1, f2, f3, f4, g1, g2, g3, g4, g5, g6, g7, g8, g9, g10, g11, g12, zz, nes, hget, hx, wi, hmu1, hms]
      refine call_ hdo (by simp -dsimp) ?_
      by_cases k4 : d1 = 4
      · have hsv := storeSave_fn xs (ok_small hb.ok)
        rw [hb.ok] at hsv
        generalize storeSave xs = y at *
        simp -dsimp [List.range_succ, e.t5, e.t8, e.t9, e.t11, e.t13, t14, t15, e.mp, e.mq, e.mr, m14, f1, f2, f3, f4, g1, g2, g3, g4, g5, g6, g7, g8, g9, g10, g11, g12, zz, nes, hget, hx, wi, hmu1, hms, k4]
        refine call_ hsv (by simp -dsimp) ?_
        simp -dsimp [e.t5, e.t8, e.t9, e.t11, e.t13, t14, t15, e.mp, e.mq, e.mr, m14, f1, f2, f3, f4, g1, g2, g3, g4, g5, g6, g7, g8, g9, g10, g11, g12, zz, nes, hget, hx, wi, hmu1, hms]
        exact ⟨xs, y, R1, k + 1, ⟨by simp -dsimp [e.t5], by simp -dsimp [e.t8], by simp -dsimp [e.t9], by simp -dsimp [e.t10], by simp -dsimp [e.t11], by simp -dsimp [e.t12], by simp -dsimp, e.pq, e.qr, (by have := e.rn; simp -dsimp <;> omega), by simp -dsimp [e.mp, f1, g1, g2, g3, g4, g5, g6, zz, nes], by simp -dsimp [e.mq, f2, g1, g2, g3, g4, g5, g6, zz, nes], by simp -dsimp [e.mr, f3, g1, g2, g3, g4, g5, g6, zz, nes]⟩, hb, by omega, by simp⟩
      · obtain ⟨hz, hA⟩ := ha (by simpa using k4)
        subst hz
        have hsv := storeSave_fn xz (ok_small hA.ok2)
        have hsy := storeSync_fn xz (ok_small hA.ok2)
        rw [hA.ok2] at hsv hsy
        have hwv := way_save hA
        have hwy := way_sync hA
        generalize storeSave xz = yv at *
        generalize storeSync xz = ys at *
        simp -dsimp [List.range_succ, e.t5, e.t8, e.t9, e.t11, e.t13, t14, t15, e.mp, e.mq, e.mr, m14, f1, f2, f3, f4, g1, g2, g3, g4, g5, g6, g7, g8, g9, g10, g11, g12, zz, nes, hget, hx, wi, hmu1, hms, k4]
        refine twp_drawT (.run [0, 1, 2, 3, 4] (.alt (.run [5, 6, 7, 8, 9, 10, 11] .done) (.run [9, 5, 6, 7, 8, 10, 11] .done))) [n2 + 1 + 1 + 1 + 1] (List.replicate 12 [0]) (List.replicate 12 [0]) (by kernel_rfl) (by kernel_rfl) (by kernel_rfl) (by kernel_rfl) ?_
        simp -dsimp [e.t5, e.t8, e.t9, e.t11, e.t13, t14, t15, e.mp, e.mq, e.mr, m14, f1, f2, f3, f4, g1, g2, g3, g4, g5, g6, g7, g8, g9, g10, g11, g12, zz, nes, hget, hx, wi, hmu1, hms]
        refine ordT_both ?_ ?_
        · simp -dsimp [e.t5, e.t8, e.t9, e.t11, e.t13, t14, t15, e.mp, e.mq, e.mr, m14, f1, f2, f3, f4, g1, g2, g3, g4, g5, g6, g7, g8, g9, g10, g11, g12, zz, nes, hget, hx, wi, hmu1, hms]
          refine call_ hcall2 (by simp -dsimp) ?_
          by_cases par : k % 2 = 0
          · have par1 : ((k : Int)) % 2 = 0 := by omega
            have par2 : ((k : Int)).tmod 2 = 0 := by rw [Int.tmod_eq_emod_of_nonneg (by omega)]; exact par1
            simp -dsimp [e.t5, e.t8, e.t9, e.t11, e.t13, t14, t15, e.mp, e.mq, e.mr, m14, f1, f2, f3, f4, g1, g2, g3, g4, g5, g6, g7, g8, g9, g10, g11, g12, zz, nes, hget, hx, wi, hmu1, hms, par, par1, par2]
            refine call_ hsy (by simp -dsimp) ?_
            simp -dsimp [e.t5, e.t8, e.t9, e.t11, e.t13, t14, t15, e.mp, e.mq, e.mr, m14, f1, f2, f3, f4, g1, g2, g3, g4, g5, g6, g7, g8, g9, g10, g11, g12, zz, nes, hget, hx, wi, hmu1, hms]
            exact ⟨xs, ys, R1, k + 1, ⟨by simp -dsimp [e.t5], by simp -dsimp [e.t8], by simp -dsimp [e.t9], by simp -dsimp [e.t10], by simp -dsimp [e.t11], by simp -dsimp [e.t12], by simp -dsimp, e.pq, e.qr, (by have := e.rn; simp -dsimp <;> omega), by simp -dsimp [e.mp, f1, g1, g2, g3, g4, g5, g6, zz, nes], by simp -dsimp [e.mq, f2, g1, g2, g3, g4, g5, g6, zz, nes], by simp -dsimp [e.mr, f3, g1, g2, g3, g4, g5, g6, zz, nes]⟩, hwy, by omega, by simp⟩
          · have par1 : ¬ ((k : Int)) % 2 = 0 := by omega
            have par2 : ¬ ((k : Int)).tmod 2 = 0 := by rw [Int.tmod_eq_emod_of_nonneg (by omega)]; exact par1
            simp -dsimp [e.t5, e.t8, e.t9, e.t11, e.t13, t14, t15, e.mp, e.mq, e.mr, m14, f1, f2, f3, f4, g1, g2, g3, g4, g5, g6, g7, g8, g9, g10, g11, g12, zz, nes, hget, hx, wi, hmu1, hms, par, par1, par2]
            refine call_ hsv (by simp -dsimp) ?_
            simp -dsimp [e.t5, e.t8, e.t9, e.t11, e.t13, t14, t15, e.mp, e.mq, e.mr, m14, f1, f2, f3, f4, g1, g2, g3, g4, g5, g6, g7, g8, g9, g10, g11, g12, zz, nes, hget, hx, wi, hmu1, hms]
            exact ⟨xs, yv, R1, k + 1, ⟨by simp -dsimp [e.t5], by simp -dsimp [e.t8], by simp -dsimp [e.t9], by simp -dsimp [e.t10], by simp -dsimp [e.t11], by simp -dsimp [e.t12], by simp -dsimp, e.pq, e.qr, (by have := e.rn; simp -dsimp <;> omega), by simp -dsimp [e.mp, f1, g1, g2, g3, g4, g5, g6, zz, nes], by simp -dsimp [e.mq, f2, g1, g2, g3, g4, g5, g6, zz, nes], by simp -dsimp [e.mr, f3, g1, g2, g3, g4, g5, g6, zz, nes]⟩, hwv, by omega, by simp⟩
        · simp -dsimp [e.t5, e.t8, e.t9, e.t11, e.t13, t14, t15, e.mp, e.mq, e.mr, m14, f1, f2, f3, f4, g1, g2, g3, g4, g5, g6, g7, g8, g9, g10, g11, g12, zz, nes, hget, hx, wi, hmu1, hms]
          refine call_ hcall2 (by simp -dsimp) ?_
          by_cases par : k % 2 = 0
          · have par1 : ((k : Int)) % 2 = 0 := by omega
            have par2 : ((k : Int)).tmod 2 = 0 := by rw [Int.tmod_eq_emod_of_nonneg (by omega)]; exact par1
            simp -dsimp [e.t5, e.t8, e.t9, e.t11, e.t13, t14, t15, e.mp, e.mq, e.mr, m14, f1, f2, f3, f4, g1, g2, g3, g4, g5, g6, g7, g8, g9, g10, g11, g12, zz, nes, hget, hx, wi, hmu1, hms, par, par1, par2]
            refine call_ hsy (by simp -dsimp) ?_
            simp -dsimp [e.t5, e.t8, e.t9, e.t11, e.t13, t14, t15, e.mp, e.mq, e.mr, m14, f1, f2, f3, f4, g1, g2, g3, g4, g5, g6, g7, g8, g9, g10, g11, g12, zz, nes, hget, hx, wi, hmu1, hms]
            exact ⟨xs, ys, R1, k + 1, ⟨by simp -dsimp [e.t5], by simp -dsimp [e.t8], by simp -dsimp [e.t9], by simp -dsimp [e.t10], by simp -dsimp [e.t11], by simp -dsimp [e.t12], by simp -dsimp, e.pq, e.qr, (by have := e.rn; simp -dsimp <;> omega), by simp -dsimp [e.mp, f1, g1, g2, g3, g4, g5, g6, zz, nes], by simp -dsimp [e.mq, f2, g1, g2, g3, g4, g5, g6, zz, nes], by simp -dsimp [e.mr, f3, g1, g2, g3, g4, g5, g6, zz, nes]⟩, hwy, by omega, by simp⟩
          · have par1 : ¬ ((k : Int)) % 2 = 0 := by omega
            have par2 : ¬ ((k : Int)).tmod 2 = 0 := by rw [Int.tmod_eq_emod_of_nonneg (by omega)]; exact par1
            simp -dsimp [e.t5, e.t8, e.t9, e.t11, e.t13, t14, t15, e.mp, e.mq, e.mr, m14, f1, f2, f3, f4, g1, g2, g3, g4, g5, g6, g7, g8, g9, g10, g11, g12, zz, nes, hget, hx, wi, hmu1, hms, par, par1, par2]
            refine call_ hsv (by simp -dsimp) ?_
            simp -dsimp [e.t5, e.t8, e.t9, e.t11, e.t13, t14, t15, e.mp, e.mq, e.mr, m14, f1, f2, f3, f4, g1, g2, g3, g4, g5, g6, g7, g8, g9, g10, g11, g12, zz, nes, hget, hx, wi, hmu1, hms]
            exact ⟨xs, yv, R1, k + 1, ⟨by simp -dsimp [e.t5], by simp -dsimp [e.t8], by simp -dsimp [e.t9], by simp -dsimp [e.t10], by simp -dsimp [e.t11], by simp -dsimp [e.t12], by simp -dsimp, e.pq, e.qr, (by have := e.rn; simp -dsimp <;> omega), by simp -dsimp [e.mp, f1, g1, g2, g3, g4, g5, g6, zz, nes], by simp -dsimp [e.mq, f2, g1, g2, g3, g4, g5, g6, zz, nes], by simp -dsimp [e.mr, f3, g1, g2, g3, g4, g5, g6, zz, nes]⟩, hwv, by omega, by simp⟩
  · rintro st ⟨s, z, D, k, e, hW, hkl, hend⟩
    have f1 := far (show n1 < st.n by have := e.pq; have := e.qr; have := e.rn; omega)
    have f2 := far (show n2 + 1 + 1 < st.n by have := e.qr; have := e.rn; omega)
    have f3 := far e.rn
    have zz : (¬ n2 = st.n) ∧ (¬ n2 + 1 = st.n) ∧ (¬ n2 + 1 + 1 = st.n) ∧ (¬ n2 + 1 + 1 + 1 = st.n) := by have := e.qr; have := e.rn; refine ⟨?_, ?_, ?_, ?_⟩ <;> omega
    have g1 : ¬ n1 = n2 + 1 + 1 := by have := e.pq; omega
    have g2 : ¬ n1 = n2 + 1 + 1 + 1 + 1 := by have := e.pq; omega
    have ho := storeOpen_fn s (ok_small hW.ok)
    have ho2 := storeOpen_fn z (ok_small hW.ok2)
    rw [hW.ok, yes_open hW.ok, hW.desk] at ho
    rw [hW.ok2, yes_open hW.ok2] at ho2
    have dsm := (desk_fine (by rw [← hW.desk]; exact opened_ok hW.ok : deskOk D = true)).1
    have hd := sameDesk_fn D D dsm
    have hp := samePlace_fn (opened z).now D.now (by rw [hW.now]; exact dsm.1)
    have hnw := hW.now
    generalize opened z = E at *
    obtain ⟨E1, E2⟩ := E
    simp only at hnw hp
    subst hnw
    simp -dsimp [e.t5, e.t9, e.t10, e.t11, e.t12, e.mp, e.mq, e.mr, f1, f2, f3, g1, g2, zz, nes]
    refine call_ ho (by simp -dsimp) ?_
    simp -dsimp [e.t5, e.t9, e.t10, e.t11, e.t12, e.mp, e.mq, e.mr, f1, f2, f3, g1, g2, zz, nes]
    refine call_ ho2 (by simp -dsimp) ?_
    simp -dsimp [e.t5, e.t9, e.t10, e.t11, e.t12, e.mp, e.mq, e.mr, f1, f2, f3, g1, g2, zz, nes]
    refine call_ hd (by simp -dsimp) ?_
    simp -dsimp [e.t5, e.t9, e.t10, e.t11, e.t12, e.mp, e.mq, e.mr, f1, f2, f3, g1, g2, zz, nes]
    refine call_ hp (by simp -dsimp) ?_
    simp -dsimp [e.t5, e.t9, e.t10, e.t11, e.t12, e.mp, e.mq, e.mr, f1, f2, f3, g1, g2, zz, nes]
end TL

/- A cell lies in its block. -/
namespace TL
open Go
theorem lt_of_cell {W : World} {g : Nat} {v : Value} (h : W.cell? ⟨g, 0, none⟩ = some v) : g < W.heap.size := by
  unfold World.cell? at h
  split at h
  · rename_i hb; exact (Array.getElem?_eq_some_iff.1 hb).1
  · cases h
end TL

/- The library's variables at the start: what the world's shape and the row's listed data give. -/
namespace TL
open Go Go.Proofs
/-- A listed sentinel is an interface value. -/
theorem laid_iface {P : Program} {n nm : String} {d : DataW Unit} {r : List (String × DataW Unit)} {W : World} {g : Nat} {ti : TypeId} {ms : Array (String × TypeId)}
    (h : laidMet P ((n, .iface nm d) :: r) W) (hg : P.globalNamed n = some g) (ht : (P.globals[g]?).map (·.type) = some ti) (hi : P.underlying ti = some (.interface ms)) : ∃ u v, W.cell? ⟨g, 0, none⟩ = some (.iface u v) := by
  obtain ⟨ps, ⟨g0, t0, cs0, f0, p0, q0, hg0, ht0, hv0, hd0, _, e0⟩, _, hrows⟩ := h
  obtain rfl := Option.some.inj (hg.symm.trans hg0)
  obtain rfl := Option.some.inj (ht.symm.trans ht0)
  obtain ⟨l0⟩ := cs0
  obtain ⟨f1, u, v, hl, _, _⟩ := iface_of_trod hi hd0
  have hl : l0 = [.iface u v] := hl
  subst hl
  exact ⟨u, v, by simpa using World.var?_cell hg0 hv0 0⟩
theorem gl_start {W : World} (h : W.ShapedOpen Tryz.prog) (hr : ∃ u v, W.cell? ⟨Tryz.laysC172_ren.g 16, 0, none⟩ = some (.iface u v)) (hs : ∃ u v, W.cell? ⟨Tryz.laysC172_ren.g 15, 0, none⟩ = some (.iface u v)) : Gl Tryz.prog (ZA W) W := by
  have n1 : Tryz.prog.globalNamed "internal/bytealg.MaxLen" = some 0 := by kernel_rfl
  have n2 : Tryz.prog.globalNamed "strconv.ErrSyntax" = some (Tryz.laysC172_ren.g 15) := Tryz.laysC172.m15
  have n3 : Tryz.prog.globalNamed "strconv.ErrRange" = some (Tryz.laysC172_ren.g 16) := Tryz.laysC172.m16
  have hm : ∃ m, W.cell? ⟨0, 0, none⟩ = some (.int .i64 m) := Tryz.laysM145.s1_3 W h
  rintro g Q (⟨e, rfl⟩ | ⟨e | e, rfl⟩)
  · rw [n1] at e; cases e
    obtain ⟨m, hm⟩ := hm
    exact ⟨lt_of_cell hm, _, hm, m, rfl⟩
  · rw [n2] at e
    obtain rfl := Option.some.inj e
    obtain ⟨u, v, hs⟩ := hs
    exact ⟨lt_of_cell hs, _, hs, .inr ⟨u, v, rfl⟩⟩
  · rw [n3] at e
    obtain rfl := Option.some.inj e
    obtain ⟨u, v, hr⟩ := hr
    exact ⟨lt_of_cell hr, _, hr, .inr ⟨u, v, rfl⟩⟩
end TL

/- A closed fact of the program. -/
set_option maxRecDepth 100000
namespace Go.Proofs.YtlcgghbbjfeehaaGreatDoor.wide
open Go
theorem may_enter : Tryz.pinned.checked.prog.mayEnter = true := by kernel_rfl
end Go.Proofs.YtlcgghbbjfeehaaGreatDoor.wide

/- A closed fact of the program. -/
set_option maxRecDepth 100000
namespace Go.Proofs.YtlcgghbbjfeehaaGreatDoor.wide
open Go
theorem lifts_are : Tryz.pinned.checked.prog.liftsFinal = Rows.fnExactStoreSaveRow.lifted := by kernel_rfl
end Go.Proofs.YtlcgghbbjfeehaaGreatDoor.wide

/- A closed fact of the program. -/
set_option maxRecDepth 100000
namespace Go.Proofs.YtlcgghbbjfeehaaGreatDoor.wide
open Go
theorem make_is : Tryz.pinned.checked.prog.make = some Rows.fnExactStoreSaveRow.make := by kernel_rfl
end Go.Proofs.YtlcgghbbjfeehaaGreatDoor.wide

/- A closed fact of the program. -/
set_option maxRecDepth 100000
namespace Go.Proofs.YtlcgghbbjfeehaaGreatDoor.wide
open Go
theorem main_is : Tryz.pinned.checked.prog.mainIs = some (true, "6e8dd9deb8934a72b4d92f1b0ab6c9673d0c0d7c0796f47db823c791a26dc137".toList) := by kernel_rfl
theorem looks_are : true = Tryz.pinned.checked.prog.looks [] := by kernel_rfl
end Go.Proofs.YtlcgghbbjfeehaaGreatDoor.wide

/- The wrap of a row that lists variables, the world's shape kept too. -/
namespace TL
open Go
variable {H : Type} {enc : TypeId × Value → H}
theorem wrapLS {a : Assume} {C : Checked} {os : Os} {f : FuncId} {fn : Func} {s : ChangeSpec} {conds : List PathCond} {apart fresh handsOn again : Bool} {X : World → Array Value → Prop}
    (hX : ∀ (w w' : World) (args : Array Value), w.heap = w'.heap → X w args → X w' args)
    (own : ownKnob C.prog.godebug = none) (started : os.Started) (noInit : C.prog.inits.idxOf? f = none) (hfn : C.prog.funcs[f]? = some fn)
    (witness : ∃ (w : World) (tape : Tape) (i : Input), w.os = os ∧ (w.forCall tape i).Shaped C.prog ∧ i.vars = [] ∧ Input.okWide C.prog (w.forCall tape i) .any w.heap.size f i ∧
      ((s.pre enc C.prog fn conds apart (w.forCall tape i).memory i.args ∧ X (w.forCall tape i).memory i.args) ∧ sizedMet enc C.prog fn (OpenSpec.ofChange s) apart (w.forCall tape i).memory i.args) ∧ a.holds C.prog (lone (Frame.enter C.prog f i.args .normal) [] (w.forCall tape i)))
    (contract : ∀ (W : World) (base : Nat) (args : Array Value) (ds gs : List (DataW H)) (before : List MemPlace),
      (∀ (j : Nat) t v, fn.params[j]? = some t → args[j]? = some v → Value.okWide C.prog W .any base t v) →
      DataW.Whole enc C.prog fn.params.toList s.vars apart W args.toList ds gs before → X W args → W.ShapedOpen C.prog →
      Calls C.prog f args W fun e W' => ∃ v, e = .returned v ∧ s.post enc C.prog fn apart fresh handsOn again W args v W') :
    ReturnsInHanded a C os f .any (fun w args => (s.pre enc C.prog fn conds apart w args ∧ X w args) ∧ sizedMet enc C.prog fn (OpenSpec.ofChange s) apart w args) (s.post enc C.prog fn apart fresh handsOn again) := by
  refine returnsInHanded_of_calls own started noInit witness ?_
  intro w tape i _ hsh _ hok hpre _
  obtain ⟨_, _, _, fn', hfn', _, _, _, _, hval⟩ := hok
  have e : fn' = fn := Option.some.inj (hfn'.symm.trans hfn)
  subst e
  obtain ⟨⟨⟨ds, gs, before, hw, _⟩, hx⟩, _⟩ := hpre
  have hw' := DataW.Whole.of_heap (w' := w.forCall tape i) (by rfl) hw
  refine (contract (w.forCall tape i) w.heap.size i.args ds gs before hval hw' (hX _ _ _ (by rfl) hx) hsh).mono fun e W' ⟨v, he, hp⟩ => ?_
  subst he
  exact ChangeSpec.post_blind hp
end TL
