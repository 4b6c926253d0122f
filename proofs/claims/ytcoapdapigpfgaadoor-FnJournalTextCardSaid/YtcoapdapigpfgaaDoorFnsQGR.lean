/- TL: parts FnsQ3, FnsQ4, FnsQ5, FnsQ6. -/
import Derived.Test.YtcoapdapigpfgaaDoorFnsQ2
/- A drawn term: some row of marks. -/
set_option linter.unusedSimpArgs false
set_option linter.unusedVariables false
set_option maxRecDepth 100000
set_option maxHeartbeats 4000000
set_option pp.maxSteps 1500
namespace TL
open Go Go.Proofs
/-- Marks as cells. -/
def mkT : List Mark → List T
  | [] => []
  | m :: ms => .v (.int .i64 m.kind) :: .v (.int .i64 m.num) :: mkT ms
@[simp] theorem mkT_nil : mkT [] = [] := rfl
theorem mkT_append (a b : List Mark) : mkT (a ++ b) = mkT a ++ mkT b := by
  induction a with
  | nil => rfl
  | cons x xs ih => simp [mkT, ih]
@[simp] theorem mkT_length (a : List Mark) : (mkT a).length = a.length * 2 := by
  induction a with
  | nil => rfl
  | cons x xs ih => simp [mkT, ih]; omega
@[simp] theorem mkT_take (a : List Mark) : (mkT a).take (a.length * 2) = mkT a := List.take_of_length_le (by simp)
@[simp] theorem mkT_cells (a : List Mark) : allC (mkT a) := by
  induction a with
  | nil => simp
  | cons x xs ih => simp [mkT]; exact ih
theorem mkT_one (k a : Int) : [T.v (.int .i64 k), T.v (.int .i64 a)] = mkT [⟨k, a⟩] := rfl
/-- Parts as cells of a row. -/
def partsT (l : List (Nat × List Mark)) : List T := l.map fun q => .sv q.1 0 q.2.length
@[simp] theorem partsT_length (a : List (Nat × List Mark)) : (partsT a).length = a.length := by simp [partsT]
@[simp] theorem partsT_take (a : List (Nat × List Mark)) : (partsT a).take a.length = partsT a := List.take_of_length_le (by simp)
@[simp] theorem partsT_cells (a : List (Nat × List Mark)) : allC (partsT a) := by
  intro x hx; simp only [partsT, List.mem_map] at hx; obtain ⟨q, _, rfl⟩ := hx; rfl
@[simp] theorem partsT_cells_take (a : List (Nat × List Mark)) (k : Nat) : allC ((partsT a).take k) := allC_take (partsT_cells a) k
@[simp] theorem partsT_cells_drop (a : List (Nat × List Mark)) (k : Nat) : allC ((partsT a).drop k) := allC_drop (partsT_cells a) k
structure TEnv (m0 : Mem) (n0 rid : Nat) (bs : List UInt8) (s : S) (pid : Nat) (parts : List (Nat × List Mark)) (p : Nat) : Prop where
  mu : s.mu = true
  n : n0 ≤ s.n
  pid0 : n0 ≤ pid
  pid1 : pid < s.n
  row : s.m pid = some (.box 78 1 (partsT parts))
  each : ∀ q ∈ parts, n0 ≤ q.1 ∧ q.1 < s.n ∧ q.1 ≠ pid ∧ s.m q.1 = some (.box 126 2 (mkT q.2)) ∧ 1 ≤ q.2.length ∧ fits q.2
  rd : s.m rid = some (rdB bs p)
  out : ∀ j, j < n0 → j ≠ rid → s.m j = m0 j
theorem TEnv.push {m0 : Mem} {n0 rid : Nat} {bs : List UInt8} {s s' : S} {pid p q n1 : Nat} {parts : List (Nat × List Mark)} (h : TEnv m0 n0 rid bs s pid parts p) (hn : s.n ≤ n1) (hr : rid < n0) (mk : Mark) (hmk : mk.fit) (x : Option Blk)
    (hmu : s'.mu = true) (hn' : s'.n = n1 + 1 + 1 + 1) (hm : ∀ j, s'.m j = if j = n1 + 1 + 1 then some (.box 78 1 (partsT parts ++ [.sv n1 0 1])) else if j = pid then none else if j = n1 + 1 then x else if j = n1 then some (.box 126 2 [.v (.int .i64 mk.kind), .v (.int .i64 mk.num)])
      else if j = rid then some (rdB bs q) else s.m j) : TEnv m0 n0 rid bs s' (n1 + 1 + 1) (parts ++ [(n1, [mk])]) q := by
  have hp0 := h.pid0
  have hp1 := h.pid1
  have hnn := h.n
  refine ⟨hmu, by omega, by omega, by omega, ?_, ?_, ?_, ?_⟩
  · rw [hm, if_pos rfl]; simp [partsT]
  · intro y hy
    rcases List.mem_append.1 hy with hy | hy
    · obtain ⟨e1, e2, e3, e4, e5⟩ := h.each y hy
      refine ⟨e1, by omega, by omega, ?_, e5⟩
      rw [hm, if_neg (by omega), if_neg e3, if_neg (by omega), if_neg (by omega), if_neg (by omega), e4]
    · cases List.mem_singleton.1 hy
      refine ⟨by omega, by omega, by omega, ?_, by simpa using hmk⟩
      rw [hm, if_neg (by omega), if_neg (by omega), if_neg (by omega), if_pos rfl]; rfl
  · rw [hm, if_neg (by omega), if_neg (by omega), if_neg (by omega), if_neg (by omega), if_pos rfl]
  · intro j h1 h2
    rw [hm, if_neg (by omega), if_neg (by omega), if_neg (by omega), if_neg (by omega), if_neg (by omega), h.out j h1 h2]
theorem TEnv.read {m0 : Mem} {n0 rid : Nat} {bs : List UInt8} {s s' : S} {pid p q : Nat} {parts : List (Nat × List Mark)} (h : TEnv m0 n0 rid bs s pid parts p) (hr : rid < n0)
    (hmu : s'.mu = true) (hn : s.n ≤ s'.n) (hm : s'.m = updM s.m rid (some (rdB bs q))) : TEnv m0 n0 rid bs s' pid parts q := by
  have hp0 := h.pid0
  have hp1 := h.pid1
  have hnn := h.n
  refine ⟨hmu, by omega, by omega, by omega, ?_, ?_, ?_, ?_⟩
  · rw [hm, updM_ne _ _ (by omega), h.row]
  · intro y hy
    obtain ⟨e1, e2, e3, e4, e5⟩ := h.each y hy
    exact ⟨e1, by omega, e3, by rw [hm, updM_ne _ _ (by omega), e4], e5⟩
  · rw [hm, updM_same]
  · intro j h1 h2
    rw [hm, updM_ne _ _ h2, h.out j h1 h2]
theorem TEnv.next {m0 : Mem} {n0 rid : Nat} {bs : List UInt8} {s s' : S} {pid pid' p q n1 : Nat} {parts parts' : List (Nat × List Mark)} (h : TEnv m0 n0 rid bs s pid parts p) (hr : rid < n0)
    (hmu : s'.mu = true) (hn1 : s.n ≤ n1) (hn : n1 ≤ s'.n) (hpid : pid' = pid ∨ n1 ≤ pid') (hpl : pid' < s'.n) (hrow : s'.m pid' = some (.box 78 1 (partsT parts'))) (hrd : s'.m rid = some (rdB bs q))
    (hout : ∀ j, j < n1 → j ≠ rid → j ≠ pid → s'.m j = s.m j)
    (hall : ∀ y ∈ parts', y ∈ parts ∨ (n1 ≤ y.1 ∧ y.1 < s'.n ∧ y.1 ≠ pid' ∧ s'.m y.1 = some (.box 126 2 (mkT y.2)) ∧ 1 ≤ y.2.length ∧ fits y.2)) : TEnv m0 n0 rid bs s' pid' parts' q := by
  have hp0 := h.pid0
  have hp1 := h.pid1
  have hnn := h.n
  refine ⟨hmu, by omega, by omega, hpl, hrow, ?_, hrd, ?_⟩
  · intro y hy
    rcases hall y hy with hy | ⟨e1, e2, e3, e4, e5⟩
    · obtain ⟨e1, e2, e3, e4, e5⟩ := h.each y hy
      exact ⟨e1, by omega, by omega, by rw [hout _ (by omega) (by omega) e3, e4], e5⟩
    · exact ⟨by omega, e2, e3, e4, e5⟩
  · intro j h1 h2
    rw [hout j (by omega) h2 (by omega), h.out j h1 h2]
def TI1 (m0 : Mem) (n0 rid : Nat) (bs : List UInt8) (p : Nat) (people k : Int) (s : S) : Prop := ∃ (parts : List (Nat × List Mark)) (pid c p' : Nat),
  s.tm 0 = .ptr rid 0 ∧ s.tm 1 = .v (.int .i64 people) ∧ s.tm 2 = .v (.int .i64 k) ∧ s.tm 7 = .sv pid 0 parts.length ∧ s.tm 8 = .v (.int .i64 c) ∧ parts.length + c ≤ 4 ∧ 1 ≤ parts.length + c ∧ p ≤ p' ∧ p' + 2 * c ≤ p + 9 ∧
  TEnv m0 n0 rid bs s pid parts p' ∧ ∀ q ∈ parts, q.2.length = 1
def TI2 (m0 : Mem) (n0 rid : Nat) (bs : List UInt8) (p : Nat) (people k : Int) (s : S) : Prop := ∃ (parts : List (Nat × List Mark)) (pid p' : Nat),
  s.tm 0 = .ptr rid 0 ∧ s.tm 1 = .v (.int .i64 people) ∧ s.tm 2 = .v (.int .i64 k) ∧ s.tm 7 = .sv pid 0 parts.length ∧ 1 ≤ parts.length ∧ parts.length ≤ 4 ∧ p ≤ p' ∧ p' ≤ p + 9 ∧
  TEnv m0 n0 rid bs s pid parts p' ∧ ∀ q ∈ parts, q.2.length = 1
def sumLen (l : List (Nat × List Mark)) : Nat := (l.map fun q => q.2.length).sum
theorem sumLen_one {l : List (Nat × List Mark)} (h : ∀ q ∈ l, q.2.length = 1) : sumLen l = l.length := by
  induction l with
  | nil => rfl
  | cons x xs ih =>
    have := ih fun q hq => h q (List.mem_cons_of_mem _ hq)
    have h1 := h x (List.mem_cons_self ..)
    simp only [sumLen, List.map_cons, List.sum_cons, List.length_cons] at this ⊢; omega
theorem sumLen_append (a b : List (Nat × List Mark)) : sumLen (a ++ b) = sumLen a + sumLen b := by simp [sumLen]
theorem sumLen_set {l : List (Nat × List Mark)} {i : Nat} {q x : Nat × List Mark} (h : l[i]? = some q) : sumLen (l.set i x) + q.2.length = sumLen l + x.2.length := by
  induction l generalizing i with
  | nil => cases h
  | cons y ys ih =>
    cases i with
    | zero => cases h; simp [sumLen]; omega
    | succ i => have := ih (i := i) (by simpa using h); simp only [sumLen, List.set_cons_succ, List.map_cons, List.sum_cons] at this ⊢; omega
theorem two_split {α : Type} {l : List α} {i : Nat} (h : i + 1 < l.length) : ∃ a b, l[i]? = some a ∧ l[i + 1]? = some b ∧ l = l.take i ++ [a, b] ++ l.drop (i + 2) := by
  refine ⟨l[i], l[i + 1], List.getElem?_eq_getElem _, List.getElem?_eq_getElem _, ?_⟩
  have h1 : l.drop i = l[i] :: l.drop (i + 1) := List.drop_eq_getElem_cons (by omega)
  have h2 : l.drop (i + 1) = l[i + 1] :: l.drop (i + 2) := List.drop_eq_getElem_cons (by omega)
  rw [List.append_assoc]
  conv => lhs; rw [← List.take_append_drop i l, h1, h2]
  rfl
theorem sumLen_mem {l : List (Nat × List Mark)} {q : Nat × List Mark} (h : q ∈ l) : q.2.length ≤ sumLen l := by
  induction l with
  | nil => cases h
  | cons y ys ih =>
    rcases List.mem_cons.1 h with rfl | h
    · simp [sumLen]
    · have := ih h; simp only [sumLen, List.map_cons, List.sum_cons] at this ⊢; omega
def TI3 (m0 : Mem) (n0 rid : Nat) (bs : List UInt8) (p : Nat) (k : Int) (s : S) : Prop := ∃ (parts : List (Nat × List Mark)) (pid left p' : Nat),
  s.tm 0 = .ptr rid 0 ∧ s.tm 2 = .v (.int .i64 k) ∧ s.tm 7 = .sv pid 0 parts.length ∧ s.tm 9 = .v (.int .i64 left) ∧ 1 ≤ parts.length ∧ sumLen parts + left + parts.length ≤ 11 ∧ p ≤ p' ∧ p' + 3 * (left + parts.length) ≤ p + 30 ∧
  TEnv m0 n0 rid bs s pid parts p'
def TIC (m0 : Mem) (n0 rid : Nat) (bs : List UInt8) (p : Nat) (k : Int) (c M : Nat) (s : S) : Prop := ∃ (parts : List (Nat × List Mark)) (pid left ap p' : Nat),
  s.tm 0 = .ptr rid 0 ∧ s.tm 2 = .v (.int .i64 k) ∧ s.tm 7 = .sv pid 0 parts.length ∧ s.tm 9 = .v (.int .i64 left) ∧ s.tm 10 = .v (.int .i64 ap) ∧ ap + 1 < parts.length ∧ left + parts.length = M ∧ sumLen parts + left + parts.length ≤ 11 ∧ p ≤ p' ∧ p' + 3 * (left + parts.length) ≤ p + 30 + c ∧
  TEnv m0 n0 rid bs s pid parts p'
def TI4 (m0 : Mem) (n0 rid : Nat) (bs : List UInt8) (p : Nat) (k : Int) (s : S) : Prop := ∃ (x : Nat × List Mark) (pid p' : Nat),
  s.tm 0 = .ptr rid 0 ∧ s.tm 2 = .v (.int .i64 k) ∧ s.tm 7 = .sv pid 0 1 ∧ x.2.length ≤ 10 ∧ p ≤ p' ∧ p' ≤ p + 30 ∧
  TEnv m0 n0 rid bs s pid [x] p'
def TI5 (m0 : Mem) (n0 rid : Nat) (bs : List UInt8) (p : Nat) (k : Int) (c : Nat) (s : S) : Prop := ∃ (i : Nat) (ms : List Mark) (p' : Nat),
  s.tm 0 = .ptr rid 0 ∧ s.tm 2 = .v (.int .i64 k) ∧ s.tm 13 = .sv i 0 ms.length ∧ fits ms ∧ 1 ≤ ms.length ∧ ms.length ≤ 10 + c ∧ p ≤ p' ∧ p' ≤ p + 31 ∧ s.mu = true ∧ n0 ≤ i ∧ i < s.n ∧ n0 ≤ s.n ∧
  s.m i = some (.box 126 2 (mkT ms)) ∧ s.m rid = some (rdB bs p') ∧ (∀ j, j < n0 → j ≠ rid → s.m j = m0 j)
def TermPost (m0 : Mem) (n0 rid : Nat) (bs : List UInt8) (p : Nat) (t : T) (m' : Mem) (n' : Nat) : Prop := n0 ≤ n' ∧ ∃ i ms, t = .sv i 0 ms.length ∧ n0 ≤ i ∧ i < n' ∧ m' i = some (.box 126 2 (mkT ms)) ∧ ms.length ≤ 20 ∧ fits ms ∧
      (∀ j, j < n0 → j ≠ rid → m' j = m0 j) ∧ ∃ p', p ≤ p' ∧ p' ≤ p + 40 ∧ m' rid = some (rdB bs p')
theorem term_at (bs : List UInt8) (p : Nat) (hp : p < 900000000) (people k : Int) (hk : k < 1000000) (m : Mem) (n rid : Nat) (hr : rid < n) (hm : m rid = some (rdB bs p)) :
    FnS Tryd.prog 121 m n [.ptr rid 0, .v (.int .i64 people), .v (.int .i64 k)] (TermPost m n rid bs p) := by
  refine FnS_fresh ⟨_, Tryd.func121, rfl, rfl⟩ fun hfr => ?_
  refine FnS_of (rs := [.tmp 6]) true Tryd.func121 rfl rfl rfl rfl (Nat.le_of_ble_eq_true rfl) ?_
  simp -dsimp
  refine callS_ (pick_at bs p (by omega) _ _ _ rid (by simp [hm]; omega)) ?_
  rintro t m' n' ⟨hn', ⟨r, rfl, hr0, hr1⟩, rfl⟩
  simp -dsimp
  refine twp_loopC (TI1 m n rid bs p (min (max people 1) 4) k) (fun s => natOf (s.tm 8)) (TI2 m n rid bs p (min (max people 1) 4) k) ?_ ?_ ?_
  · refine ⟨[], n, (1 + r).toNat, p + 1, by simp, by simp, by simp, by simp, ?_, by simp; omega, by simp; omega, by omega, by omega, ⟨by simp, by simp; omega, by simp, by simp; omega, ?_, by simp, ?_, ?_⟩, by simp⟩
    · simp; rw [w64 (by omega) (by omega)]; omega
    · have a1 : ¬ n = rid := by omega
      simp [a1, partsT]
    · simp
    · intro j j1 j2
      have j3 : ¬ j = n := by omega
      simp [j2, j3]
  · rintro s ⟨parts, pid, c, p', h0, h1, h2, h7, h8, hc, hpc, hp0, hpp, h, hone⟩
    have hrow := h.row
    have hrd := h.rd
    have hmu := h.mu
    have hpid := h.pid1
    have hnn := h.n
    by_cases hc0 : c = 0
    · subst hc0
      simp -dsimp [h8]
      exact ⟨parts, pid, p', by simp [h0], by simp [h1], by simp [h2], by simp [h7], by omega, by omega, by omega, by omega, ⟨h.mu, h.n, h.pid0, h.pid1, h.row, h.each, h.rd, h.out⟩, hone⟩
    · have hc1 : 0 < c := by omega
      simp -dsimp [h0, h1, h2, h7, h8, hc1]
      refine callS_ (pick_at bs p' (by omega) _ _ _ rid hrd) ?_
      rintro t m' n' ⟨hn', ⟨r, rfl, hr0, hr1⟩, rfl⟩
      simp -dsimp [h0, h1, h2, h7, h8, hc1]
      have a5 : ¬ pid = rid := by have := h.pid0; omega
      have a6 : ¬ rid = pid := by have := h.pid0; omega
      have hpw : IntKind.wrap .i64 (min (max people 1) 4 + 2) = min (max people 1) 4 + 2 := w64 (by omega) (by omega)
      have wc : IntKind.wrap .i64 ((c : Int) - 1) = ((c - 1 : Nat) : Int) := by rw [w64 (by omega) (by omega)]; omega
      have f3 : (parts.length + 1) * 24 ≤ 140737488355328 := by omega
      have f4 : c - 1 < c := by omega
      refine iteP_intro (fun hb => ?_) (fun hb => ?_)
      · simp -dsimp [h0, h1, h2, h7, h8, hc1]
        refine callS_ (pick_at bs (p' + 1) (by omega) _ _ _ rid (by simp)) ?_
        rintro t m'' n'' ⟨hn'', ⟨r2, rfl, hr2, hr3⟩, rfl⟩
        rw [hpw] at hr3
        have f1 := far (show pid < n'' by omega)
        have f2 := far (show rid < n'' by omega)
        simp -dsimp [h0, h1, h2, h7, h8, hc1, hmu, hrow, f1, f2, f3, a5, wc, f4]
        refine ⟨parts ++ [(n'', [⟨1, r2⟩])], n'' + 1 + 1, c - 1, p' + 1 + 1, by simp [h0], by simp [h1], by simp [h2], by simp, by simp, by simp; omega, by simp; omega, by omega, by omega, ?_, ?_⟩
        · exact h.push (by omega) hr ⟨1, r2⟩ (fit_mk (by omega) (by omega) hr2 (by omega)) _ (by simp [hmu]) (by simp) (fun j => by simp; rfl)
        · intro q hq; rcases List.mem_append.1 hq with hq | hq
          · exact hone q hq
          · cases List.mem_singleton.1 hq; rfl
      · simp -dsimp [h0, h1, h2, h7, h8, hc1]
        refine callS_ (pick_at bs (p' + 1) (by omega) _ _ _ rid (by simp)) ?_
        rintro t m'' n'' ⟨hn'', ⟨r2, rfl, hr2, hr3⟩, rfl⟩
        have f1 := far (show pid < n'' by omega)
        have f2 := far (show rid < n'' by omega)
        simp -dsimp [h0, h1, h2, h7, h8, hc1, hmu, hrow, f1, f2, f3, a5, wc, f4]
        refine ⟨parts ++ [(n'', [⟨0, r2⟩])], n'' + 1 + 1, c - 1, p' + 1 + 1, by simp [h0], by simp [h1], by simp [h2], by simp, by simp, by simp; omega, by simp; omega, by omega, by omega, ?_, ?_⟩
        · exact h.push (by omega) hr ⟨0, r2⟩ (fit_mk (by omega) (by omega) hr2 (by omega)) _ (by simp [hmu]) (by simp) (fun j => by simp; rfl)
        · intro q hq; rcases List.mem_append.1 hq with hq | hq
          · exact hone q hq
          · cases List.mem_singleton.1 hq; rfl
  · rintro s ⟨parts, pid, p', h0, h1, h2, h7, hc, hpc, hp0, hpp, h, hone⟩
    simp -dsimp
    refine twp_loopC (TI3 m n rid bs p k) (fun s => natOf (s.tm 9) + natOf (s.tm 7)) (TI4 m n rid bs p k) ?_ ?_ ?_
    · refine ⟨parts, pid, 3, p', by simp [h0], by simp [h2], by simp [h7], by simp, by omega, ?_, by omega, by omega, ⟨h.mu, h.n, h.pid0, h.pid1, h.row, h.each, h.rd, h.out⟩⟩
      rw [sumLen_one hone]; omega
    · rintro s ⟨parts, pid, left, p', h0, h2, h7, h9, hl, hs, hp0, hpp, h⟩
      have hrow := h.row
      have hrd := h.rd
      have hmu := h.mu
      have hpid := h.pid1
      have hnn := h.n
      by_cases hl1 : parts.length = 1
      · simp -dsimp [h7, hl1]
        obtain ⟨x, rfl⟩ := List.length_eq_one_iff.1 hl1
        have : sumLen [x] = x.2.length := by simp [sumLen]
        exact ⟨x, pid, p', by simp [h0], by simp [h2], by simp [h7], by omega, by omega, by omega, ⟨h.mu, h.n, h.pid0, h.pid1, h.row, h.each, h.rd, h.out⟩⟩
      · have hl2 : 1 < parts.length := by omega
        have hl3 : (1 : Int) < parts.length := by omega
        have wl : IntKind.wrap .i64 ((parts.length : Int) - 1) = ((parts.length - 1 : Nat) : Int) := by rw [w64 (by omega) (by omega)]; omega
        simp -dsimp [h0, h7, hl3, wl]
        refine callS_ (pick_at bs p' (by omega) _ _ _ rid hrd) ?_
        rintro t m' n' ⟨hn', ⟨r, rfl, hr0, hr1⟩, rfl⟩
        obtain ⟨r, rfl⟩ := Int.eq_ofNat_of_zero_le hr0
        have hμ : natOf (s.tm 9) + natOf (s.tm 7) = left + parts.length := by simp [h7, h9]
        refine opsP_mono (Q := TIC m n rid bs p k 1 (left + parts.length)) ?_ _ _ ?_
        · intro s5 hs5
          simp only [thenP_normal]
          refine twp_cut (TIC m n rid bs p k 2 (left + parts.length)) ?_ ?_
          · obtain ⟨parts, pid, left, ap, p', h0, h2, h7, h9, h10, hat, hM, hs, hp0, hpp, h⟩ := hs5
            have hrow := h.row
            have hrd := h.rd
            have hmu := h.mu
            have hpid := h.pid1
            have hpid0 := h.pid0
            have hnn := h.n
            by_cases hl0 : left = 0
            · subst hl0
              simp -dsimp [h9]
              exact ⟨parts, pid, 0, ap, p', by simp [h0], by simp [h2], by simp [h7], by simp [h9], by simp [h10], by omega, by omega, by omega, by omega, by omega, ⟨h.mu, h.n, h.pid0, h.pid1, h.row, h.each, h.rd, h.out⟩⟩
            · have hl1 : 0 < left := by omega
              simp -dsimp [h0, h9, hl1]
              refine callS_ (pick_at bs p' (by omega) _ _ _ rid hrd) ?_
              rintro t m' n1 ⟨hn1, ⟨r, rfl, hr0, hr1⟩, rfl⟩
              by_cases hr2 : r = 0
              · obtain ⟨q, hq⟩ : ∃ q, parts[ap]? = some q := ⟨parts[ap], List.getElem?_eq_getElem _⟩
                have hg : (partsT parts)[ap]? = some (.sv q.1 0 q.2.length) := by simp [partsT, hq]
                have hg2 : (partsT parts)[ap]'(by simp; omega) = .sv q.1 0 q.2.length := Option.some_inj.1 ((List.getElem?_eq_getElem _).symm.trans hg)
                obtain ⟨e1, e2, e3, e4, e5⟩ := h.each q (List.mem_of_getElem? hq)
                have hsum := sumLen_set (x := (n1 + 1 + 1 + 1, q.2 ++ [⟨2, 0⟩])) hq
                have hqs : q.2.length ≤ sumLen parts := sumLen_mem (List.mem_of_getElem? hq)
                have f1 := far (show pid < n1 by omega)
                have f2 := far (show rid < n1 by omega)
                have f3 := far (show q.1 < n1 by omega)
                have a1 : ¬ pid = rid := by omega
                have a2 : ¬ q.1 = rid := by omega
                have wl : IntKind.wrap .i64 ((left : Int) - 1) = ((left - 1 : Nat) : Int) := by rw [w64 (by omega) (by omega)]; omega
                have b1 : (q.2.length) * 16 ≤ 140737488355328 := by omega
                have b2 : (q.2.length + 1) * 16 ≤ 140737488355328 := by omega
                have hat1 : ap < parts.length := by omega
                have hat2 : ap + 1 ≤ parts.length := by omega
                simp -dsimp [h0, h7, h9, h10, hr2, hl1, hmu, hrow, hg, hg2, e4, f1, f2, f3, a1, a2, e3, wl, b1, b2, hat, hat1, hat2]
                refine ⟨?_, by omega⟩
                refine st_out fun s' ht hm' hn' hu' => ?_
                have t0 := ht 0
                have t2 := ht 2
                have t7 := ht 7
                have t9 := ht 9
                simp -dsimp [h0, h2, h7] at t0 t2 t7 t9 hm' hn' hu'
                clear ht
                refine ⟨parts.set ap (n1 + 1 + 1 + 1, q.2 ++ [⟨2, 0⟩]), pid, left - 1, p' + 1, t0, t2, by simp [t7], t9, by simp; omega, by simp at hsum ⊢; omega, by omega, by simp; omega, ?_⟩
                refine h.next hr (by rw [hu', hmu]) hn1 (by omega) (.inl rfl) (by omega) ?_ ?_ ?_ ?_
                · simp [hm', partsT, List.map_set]
                · simp [hm', f1, f2, a1, Ne.symm a1]
                · intro j j1 j2 j3
                  simp [hm', far j1, j2, j3]
                · intro y hy
                  rcases List.mem_or_eq_of_mem_set hy with hy | rfl
                  · exact .inl hy
                  · right; have := fit_mk (k := 2) (a := 0) (by omega) (by omega) (by omega) (by omega); simp [hm', f1, mkT_append, mkT, e5.2, this]; omega
              · simp -dsimp [hr2]
                exact ⟨parts, pid, left, ap, p' + 1, by simp [h0], by simp [h2], by simp [h7], by simp [h9], by simp [h10], by omega, by omega, by omega, by omega, by omega, h.read hr (by simp [hmu]) (by simp; omega) (by simp)⟩
          · rintro s6 ⟨parts, pid, left, ap, p', h0, h2, h7, h9, h10, hat, hM, hs, hp0, hpp, h⟩
            have hrow := h.row
            have hrd := h.rd
            have hmu := h.mu
            have hpid := h.pid1
            have hpid0 := h.pid0
            have hnn := h.n
            obtain ⟨q1, q2, hq1, hq2, hsplit⟩ := two_split hat
            have hg1 : (partsT parts)[ap]? = some (.sv q1.1 0 q1.2.length) := by simp [partsT, hq1]
            have hg1' : (partsT parts)[ap]'(by simp; omega) = .sv q1.1 0 q1.2.length := Option.some_inj.1 ((List.getElem?_eq_getElem _).symm.trans hg1)
            have hg2 : (partsT parts)[ap + 1]? = some (.sv q2.1 0 q2.2.length) := by simp [partsT, hq2]
            have hg2' : (partsT parts)[ap + 1]'(by simp; omega) = .sv q2.1 0 q2.2.length := Option.some_inj.1 ((List.getElem?_eq_getElem _).symm.trans hg2)
            obtain ⟨e1, e2, e3, e4, e5⟩ := h.each q1 (List.mem_of_getElem? hq1)
            obtain ⟨d1, d2, d3, d4, d5⟩ := h.each q2 (List.mem_of_getElem? hq2)
            have hsum : sumLen (parts.take ap) + (q1.2.length + q2.2.length) + sumLen (parts.drop (ap + 2)) = sumLen parts := by
              conv => rhs; rw [hsplit]
              simp [sumLen]; omega
            have f1 := far hpid
            have f2 := far (show rid < s6.n by omega)
            have f3 := far e2
            have f4 := far d2
            have a1 : ¬ pid = rid := by omega
            have a2 : ¬ q1.1 = rid := by omega
            have a3 : ¬ q2.1 = rid := by omega
            have w1 : IntKind.wrap .i64 ((ap : Int) + 1) = ((ap + 1 : Nat) : Int) := by rw [w64 (by omega) (by omega)]; omega
            have w2 : (0 : Int) ≤ (ap : Int) + 1 := by omega
            have w3 : (ap : Int) + 1 < parts.length := by omega
            have w4 : ((ap : Int) + 1).toNat = ap + 1 := by omega
            have b1 : (q1.2.length) * 16 ≤ 140737488355328 := by omega
            have b2 : (q1.2.length + q2.2.length) * 16 ≤ 140737488355328 := by omega
            have hat1 : ap < parts.length := by omega
            have hat2 : ap + 1 ≤ parts.length := by omega
            have hat3 : ap + 1 + 1 ≤ parts.length := by omega
            simp only [twp_seq]
            refine twp_draw [1, 2, 3, 4, 6, 7, 8, 9, 10, 12, 0, 5, 11, 13, 14, 15, 16, 17, 18] [pid] (List.replicate 19 [0]) (List.replicate 19 [0]) (by kernel_rfl) (by kernel_rfl) (by kernel_rfl) (by kernel_rfl) ?_
            simp -dsimp [List.range_succ, h0, h7, h10, hmu, hrow, hg1, hg1', hg2, hg2', e4, d4, f1, f2, f3, f4, a1, a2, a3, e3, d3, w1, w2, w3, w4, b1, b2, hat, hat1, hat2, hat3]
            refine callS_ (pick_at bs p' (by omega) _ _ _ rid (by simp [f1, f2, hrd])) ?_
            rintro t m' n1 ⟨hn1, ⟨r, rfl, hr0, hr1⟩, rfl⟩
            have g1 := far (show pid < n1 by omega)
            have g2 := far (show rid < n1 by omega)
            have g5 := far (show s6.n + 1 + 1 < n1 by omega)
            have hr9 := hr1 (by omega)
            have w9 : IntKind.wrap .i64 (3 + r) = 3 + r := w64 (by omega) (by omega)
            have c1 : (q1.2.length + q2.2.length) * 2 ≤ q1.2.length * 2 + q2.2.length * 2 := by omega
            have c2 : (q1.2.length + q2.2.length + 1) * 16 ≤ 140737488355328 := by omega
            have c3 : List.take ((q1.2.length + q2.2.length) * 2) (mkT q1.2 ++ mkT q2.2) = mkT q1.2 ++ mkT q2.2 := List.take_of_length_le (by simp; omega)
            have c4 : ap * 24 ≤ 140737488355328 := by omega
            have c5 : (ap + 1) * 24 ≤ 140737488355328 := by omega
            have c6 : (ap + 1 + (parts.length - (ap + 2))) * 24 ≤ 140737488355328 := by omega
            have c7 : ap ≤ parts.length := by omega
            have c8 : (0 : Int) ≤ ap := by omega
            have c9 : (ap : Int) ≤ parts.length := by omega
            have w5 : IntKind.wrap .i64 ((ap : Int) + 2) = ((ap + 2 : Nat) : Int) := by rw [w64 (by omega) (by omega)]; omega
            have w6 : (0 : Int) ≤ (ap : Int) + 2 := by omega
            have w7 : (ap : Int) + 2 ≤ parts.length := by omega
            have w8 : ((ap : Int) + 2).toNat = ap + 2 := by omega
            have c10 : ap + 2 + (parts.length - (ap + 2)) ≤ parts.length := by omega
            have c11 : List.take (parts.length - (ap + 2)) (List.drop (ap + 2) (partsT parts)) = List.drop (ap + 2) (partsT parts) := List.take_of_length_le (by simp)
            simp -dsimp [List.range_succ, h0, h7, h10, hmu, hrow, f1, f2, f3, f4, g1, g2, g5, a1, c11, c1, c2, c3, c4, c5, c6, c7, c8, c9, c10, w5, w6, w7, w8]
            refine ⟨?_, by first | omega | (simp [h9]; omega)⟩
            refine st_out fun s' ht hm' hn' hu' => ?_
            have t0 := ht 0
            have t2 := ht 2
            have t7 := ht 7
            have t9 := ht 9
            simp -dsimp [h0, h2, h9] at t0 t2 t7 t9 hm' hn' hu'
            clear ht
            have hlen : (parts.take ap ++ [(n1 + 1, q1.2 ++ q2.2 ++ [(⟨IntKind.wrap .i64 (3 + r), 0⟩ : Mark)])] ++ parts.drop (ap + 2)).length = ap + 1 + (parts.length - (ap + 2)) := by
              simp; omega
            refine ⟨parts.take ap ++ [(n1 + 1, q1.2 ++ q2.2 ++ [(⟨IntKind.wrap .i64 (3 + r), 0⟩ : Mark)])] ++ parts.drop (ap + 2), n1 + 1 + 1 + 1 + 1 + 1 + 1, left, p' + 1, t0, t2, by rw [t7, hlen], t9, by omega, ?_, by omega, by omega, ?_⟩
            · have : sumLen [(n1 + 1, q1.2 ++ q2.2 ++ [(⟨IntKind.wrap .i64 (3 + r), 0⟩ : Mark)])] = q1.2.length + q2.2.length + 1 := by simp [sumLen]; omega
              rw [hlen, sumLen_append, sumLen_append, this]; omega
            refine h.next hr (by rw [hu', hmu]) (Nat.le_refl _) (by omega) (.inr (by omega)) (by omega) ?_ ?_ ?_ ?_
            · have e1 : List.take (ap + 1) (List.take ap (List.take ap (partsT parts)) ++ [T.sv (n1 + 1) 0 (q1.2.length + q2.2.length + 1)]) = List.take ap (partsT parts) ++ [T.sv (n1 + 1) 0 (q1.2.length + q2.2.length + 1)] := by
                rw [List.take_take, Nat.min_self]; exact List.take_of_length_le (by simp; omega)
              have e2 : partsT (parts.take ap ++ [(n1 + 1, q1.2 ++ q2.2 ++ [⟨IntKind.wrap .i64 (3 + r), 0⟩])] ++ parts.drop (ap + 2)) = List.take ap (partsT parts) ++ [T.sv (n1 + 1) 0 (q1.2.length + q2.2.length + 1)] ++ List.drop (ap + 2) (partsT parts) := by
                simp [partsT, List.map_take, List.map_drop]; omega
              rw [e2, hm']; simp [e1]
            · simp [hm', f2, g2, Ne.symm a1]
            · intro j j1 j2 j3
              have j4 := far (show j < n1 by omega)
              simp [hm', far j1, j2, j3, j4]
            · intro y hy
              rcases List.mem_append.1 hy with hy | hy
              · rcases List.mem_append.1 hy with hy | hy
                · exact .inl (List.mem_of_mem_take hy)
                · cases List.mem_singleton.1 hy
                  right; have := fit_mk (k := IntKind.wrap .i64 (3 + r)) (a := 0) (by rw [w9]; omega) (by rw [w9]; omega) (by omega) (by omega); simp [hm', f1, g1, mkT_append, mkT, e5.2, d5.2, this]; omega
              · exact .inl (List.mem_of_mem_drop hy)
        · simp -dsimp
          exact ⟨parts, pid, left, r, p' + 1, by simp [h0], by simp [h2], by simp [h7], by simp [h9], by simp, by omega, rfl, by omega, by omega, by omega, h.read hr (by simp [hmu]) (by simp; omega) (by simp)⟩
    · rintro s ⟨x, pid, p', h0, h2, h7, hx, hp0, hpp, h⟩
      have hrow := h.row
      have hrd := h.rd
      have hmu := h.mu
      have hpid := h.pid1
      have hpid0 := h.pid0
      have hnn := h.n
      obtain ⟨e1, e2, e3, e4, e5⟩ := h.each x (List.mem_singleton.2 rfl)
      simp -dsimp [h0, h7, hrow, partsT]
      refine callS_ (pick_at bs p' (by omega) _ _ _ rid hrd) ?_
      rintro t m' n1 ⟨hn1, ⟨r, rfl, hr0, hr1⟩, rfl⟩
      refine opsP_mono (Q := fun s => (∃ b : Bool, s.tm 112 = .v (.bool b)) ∧ TI5 m n rid bs p k 0 s) ?_ _ _ ?_
      · rintro s7 ⟨⟨b, h112⟩, hs7⟩
        simp only [thenP_normal]
        refine twp_cutQ (TI5 m n rid bs p k 1) ?_ ?_
        · obtain ⟨i, ms, p', h0, h2, h13, hfit, hl1, hl2, hp0, hpp, hmu, hi0, hi, hnn, hrow, hrd, hout⟩ := hs7
          cases b with
          | false =>
            simp -dsimp [h112]
            exact ⟨i, ms, p', h0, h2, h13, hfit, hl1, by omega, hp0, hpp, hmu, hi0, hi, hnn, hrow, hrd, hout⟩
          | true =>
            have f1 := far hi
            have f2 := far (show rid < s7.n by omega)
            have b1 : (ms.length + 1) * 16 ≤ 140737488355328 := by omega
            simp -dsimp [h112, h13, hmu, hrow, f1, f2, b1]
            refine st_out fun s' ht hm' hn' hu' => ?_
            have t0 := ht 0
            have t2 := ht 2
            have t13 := ht 13
            simp -dsimp [h0, h2] at t0 t2 t13 hm' hn' hu'
            clear ht
            refine ⟨s7.n + 1, ms ++ [⟨2, 0⟩], p', t0, t2, by simp [t13], by simp [hfit]; exact fit_mk (by omega) (by omega) (by omega) (by omega), by simp, by simp; omega, hp0, hpp, by rw [hu', hmu], by omega, by omega, by omega, ?_, ?_, ?_⟩
            · simp [hm', mkT_append, mkT]
            · simp [hm', f2, hrd]; omega
            · intro j j1 j2
              have j4 := far (show j < s7.n by omega)
              simp [hm', j4, hout j j1 j2]; omega
        · clear hs7 h112
          rintro s8 ⟨i, ms, p', h0, h2, h13, hfit, hl1, hl2, hp0, hpp, hmu, hi0, hi, hnn, hrow, hrd, hout⟩
          simp -dsimp [h0, h2]
          refine callS_ (odd_at bs p' (by omega) k hk _ _ rid hrd) ?_
          rintro t m' n2 ⟨hn2, ⟨b, rfl, hb0⟩, p2, hp1, hp2, rfl⟩
          cases b with
          | false =>
            simp -dsimp [h13]
            have a1 : ¬ i = rid := by omega
            refine ⟨by omega, i, ms, rfl, hi0, by omega, by simp [a1, hrow], by omega, hfit, fun j j1 j2 => by simp [j2, hout j j1 j2], p2, by omega, by omega, by simp⟩
          | true =>
            simp -dsimp [h0, h13]
            refine callS_ (pick_at bs p2 (by omega) _ _ _ rid (by simp)) ?_
            rintro t m' n3 ⟨hn3, ⟨r, rfl, hr0, hr1⟩, rfl⟩
            by_cases hr00 : r = 0
            · have f2 := far (show rid < n3 by omega)
              simp -dsimp [hr00, hmu]
              refine ⟨by omega, n3, [], rfl, by omega, by omega, by simp, by simp, by simp, fun j j1 j2 => ?_, p2 + 1, by omega, by omega, by simp [f2]⟩
              have j4 := far (show j < n3 by omega)
              simp [j2, j4, hout j j1 j2]
            · by_cases hr01 : r = 1
              · have f1 := far (show i < n3 by omega)
                have f2 := far (show rid < n3 by omega)
                have b1 : (ms.length + 1) * 16 ≤ 140737488355328 := by omega
                have a1 : ¬ i = rid := by omega
                have a2 : ¬ rid = i := by omega
                simp -dsimp [hr01, hmu, h13, hrow, f1, f2, a1, b1]
                refine ⟨by omega, n3 + 1, ms ++ [⟨5, 0⟩], by simp, by omega, by omega, by simp [mkT_append, mkT], by simp; omega, by simp [hfit]; exact fit_mk (by omega) (by omega) (by omega) (by omega), fun j j1 j2 => ?_, p2 + 1, by omega, by omega, by simp [f2, a2]⟩
                have j4 := far (show j < n3 by omega)
                have j5 : ¬ j = i := by omega
                simp [j2, j4, j5, hout j j1 j2]
              · have a1 : ¬ i = rid := by omega
                have b1 : 0 < ms.length := by omega
                have b2 : 2 ≤ ms.length * 2 := by omega
                simp -dsimp [hr00, hr01, h13, h0, hrow, a1, b1]
                refine callS_ (pick_at bs (p2 + 1) (by omega) _ _ _ rid (by simp)) ?_
                rintro t m' n4 ⟨hn4, ⟨r2, rfl, hr2, hr3⟩, rfl⟩
                have f1 := far (show i < n4 by omega)
                have f2 := far (show rid < n4 by omega)
                simp -dsimp [hmu, h13, hrow, f1, f2, a1, b1, b2]
                obtain ⟨x0, rest, rfl⟩ : ∃ x0 rest, ms = x0 :: rest := by
                  cases ms with
                  | nil => simp at hl1
                  | cons a b => exact ⟨a, b, rfl⟩
                refine ⟨by omega, i, ⟨r2, 6⟩ :: rest, rfl, hi0, by omega, by simp [mkT], by simp at hl2 ⊢; omega, by simp at hfit ⊢; exact ⟨fit_mk hr2 (by have := hr3 (by omega); omega) (by omega) (by omega), hfit.2⟩, fun j j1 j2 => ?_, p2 + 1 + 1, by omega, by omega, by simp [f2]; omega⟩
                have j5 : ¬ j = i := by omega
                simp [j2, j5, hout j j1 j2]
      · simp -dsimp
        refine ⟨x.1, x.2, p' + 1, by simp [h0], by simp [h2], by simp, e5.2, e5.1, by omega, by omega, by omega, by simp [hmu], by omega, by simp; omega, by simp; omega, ?_, by simp, ?_⟩
        · have a1 : ¬ x.1 = rid := by omega
          simp [a1, e4]
        · intro j j1 j2
          simp [j2, h.out j j1 j2]
end TL

/- Drawn claims and places. -/
set_option linter.unusedSimpArgs false
set_option linter.unusedVariables false
set_option maxRecDepth 100000
set_option maxHeartbeats 4000000
set_option pp.maxSteps 1500
namespace TL
open Go Go.Proofs
theorem mapO_mkT (k : Bool) (m : Mem) (d : Nat) (l : List Mark) : mapO (bor k m d) (mkT l) = some (l.flatMap fun x => [V.int .i64 x.kind, V.int .i64 x.num]) := by
  induction l with
  | nil => rfl
  | cons x xs ih => simp [mkT, mapO, ih]
theorem chunk_marks (l : List Mark) : chunk 2 l.length (l.flatMap fun x => [V.int .i64 x.kind, V.int .i64 x.num]) = l.map Mark.v := by
  induction l with
  | nil => rfl
  | cons x xs ih => simp [chunk, ih, Mark.v]
theorem bor_marks {m : Mem} {i e : Nat} {ms : List Mark} (d : Nat) (h : m i = some (.box e 2 (mkT ms))) : bor true m (d + 1) (.sv i 0 ms.length) = some (marksV ms) := by
  unfold bor
  simp -dsimp [h, mapO_mkT, marksV, chunk_marks]
  rw [tst_pos]
  · rw [chunk_marks]
  · intro x hx
    obtain ⟨y, _, hy⟩ := List.mem_flatMap.1 hx
    simp at hy; rcases hy with rfl | rfl <;> rfl
/-- What a drawing function leaves. -/
def DrawPost (R : V → Prop) (K : Nat) (m0 : Mem) (n0 rid : Nat) (bs : List UInt8) (p : Nat) (t : T) (m' : Mem) (n' : Nat) : Prop := n0 ≤ n' ∧ (∃ x, bor true (upper n0 m') 4 t = some x ∧ R x) ∧
  (∀ j, j < n0 → j ≠ rid → m' j = m0 j) ∧ ∃ p', p ≤ p' ∧ p' ≤ p + K ∧ m' rid = some (rdB bs p')
/-- A drawing function's contract: some value of a kind. -/
def Draws (R : V → Prop) (K : Nat) (m : Mem) (n rid : Nat) (bs : List UInt8) (p : Nat) (t : T) (m' : Mem) (n' : Nat) : Prop := n ≤ n' ∧ (∃ x, R x ∧ t = .v x) ∧ RdTo K m rid bs p m'
theorem Draws_of {f : Nat} {args : List T} {R : V → Prop} {K : Nat} {m : Mem} {n rid : Nat} {bs : List UInt8} {p : Nat} (hr : rid < n) (hf : ∃ fn, Tryd.prog.funcs[f]? = some fn ∧ (fn.name == "runtime.NumGoroutine") = false ∧ fn.body.isNone = false)
    (h : (∀ j, n ≤ j → m j = none) → FnS Tryd.prog f m n args (DrawPost R K m n rid bs p)) : FnS Tryd.prog f m n args (Draws R K m n rid bs p) := by
  refine FnS_fresh hf fun hfr => ?_
  refine (h hfr).frz ?_
  rintro t m' n' ⟨hn, ⟨x, hx, hR⟩, hout, p', hp1, hp2, hrd⟩
  refine ⟨x, updM m rid (some (rdB bs p')), upper n m', ?_, ?_, ?_, hx, hn, ⟨x, hR, rfl⟩, p', hp1, hp2, rfl⟩
  · intro j b hb
    by_cases hj : j = rid
    · subst hj; simp at hb; rw [hrd, hb]
    · rw [updM_ne _ _ hj] at hb
      have : j < n := by
        by_cases h : j < n
        · exact h
        · rw [hfr j (by omega)] at hb; cases hb
      rw [hout j this hj, hb]
  · intro j b hb
    by_cases h : n ≤ j
    · simpa [h] using hb
    · simp [h] at hb
  · intro j
    by_cases h : n ≤ j
    · left; rw [updM_ne _ _ (by omega), hfr j h]
    · right; simp [h]
/-- A drawn term: pure. -/
def SomeTerm (x : V) : Prop := ∃ ms : List Mark, ms.length ≤ 20 ∧ fits ms ∧ x = marksV ms
theorem term_z (bs : List UInt8) (p : Nat) (hp : p < 900000000) (people k : Int) (hk : k < 1000000) (m : Mem) (n rid : Nat) (hr : rid < n) (hm : m rid = some (rdB bs p)) :
    FnS Tryd.prog 121 m n [.ptr rid 0, .v (.int .i64 people), .v (.int .i64 k)] (Draws SomeTerm 40 m n rid bs p) := by
  refine Draws_of hr ⟨_, Tryd.func121, rfl, rfl⟩ fun hfr => (term_at bs p hp people k hk m n rid hr hm).weak ?_
  rintro t m' n' ⟨hn, i, ms, rfl, hi, hi', hrow, hl, hfit, hout, p', hp1, hp2, hrd⟩
  exact ⟨hn, ⟨marksV ms, bor_marks (e := 126) 3 (by simp [hi, hrow]), ms, hl, hfit, rfl⟩, hout, p', hp1, hp2, hrd⟩
/-- A drawn claim. -/
def SomeClaim (x : V) : Prop := ∃ c : Claim, c.says.length ≤ 20 ∧ c.fit ∧ x = c.v
theorem claim_z (bs : List UInt8) (p : Nat) (hp : p < 800000000) (people k : Int) (hpe : people < 1000000) (hk0 : 0 ≤ k) (hk : k < 100000) (m : Mem) (n rid : Nat) (hr : rid < n) (hm : m rid = some (rdB bs p)) :
    FnS Tryd.prog 96 m n [.ptr rid 0, .v (.int .i64 people), .v (.int .i64 k)] (Draws SomeClaim 50 m n rid bs p) := by
  refine Draws_of hr ⟨_, Tryd.func96, rfl, rfl⟩ fun hfr => ?_
  refine FnS_of (rs := [.cell 6 80]) false Tryd.func96 rfl rfl rfl rfl (Nat.le_of_ble_eq_true rfl) ?_
  have f1 := far hr
  have wk : IntKind.wrap .i64 (k * 2) = k * 2 := w64 (by omega) (by omega)
  simp -dsimp [wk]
  refine callS_ (pick_at bs p (by omega) _ _ _ rid (by simp [hm]; omega)) ?_
  rintro t m1 n1 ⟨hn1, ⟨r, rfl, hr0, hr1⟩, rfl⟩
  have hr1 := hr1 (by omega)
  simp -dsimp [wk]
  refine callS_ (term_z bs (p + 1) (by omega) _ _ (by omega) _ _ rid (by omega) (by simp)) ?_
  rintro t m2 n2 ⟨hn2, ⟨x, ⟨ms, hl, hfit, rfl⟩, rfl⟩, p2, hp1, hp2, rfl⟩
  have f2 := far (show rid < n2 by omega)
  have f3 := far (show n < n2 by omega)
  simp -dsimp [f1, f2, f3, marksV]
  refine callS_ (odd_at bs p2 (by omega) k (by omega) _ _ rid (by simp [f1, f2, f3])) ?_
  rintro t m3 n3 ⟨hn3, ⟨b, rfl, hb0⟩, p3, hp3, hp4, rfl⟩
  cases b with
  | false =>
    simp -dsimp [f1, f2, f3]
    refine ⟨by omega, ⟨_, by simp; rfl, ⟨r, ms⟩, hl, ⟨⟨by simp only; omega, by simp only; omega⟩, hfit⟩, rfl⟩, fun j j1 j2 => ?_, p3, by omega, by omega, by simp [f1]⟩
    simp [far j1, far (show j < n2 by omega), j2]
  | true => 
    have f4 := far (show n2 < n3 by omega)
    have f5 := far (show n < n3 by omega)
    have f6 := far (show rid < n3 by omega)
    simp -dsimp [f1, f2, f3, f4, f5, f6]
    refine callS_ (pick_at bs p3 (by omega) _ _ _ rid (by simp [f1, f2, f3, f4, f5, f6])) ?_
    rintro t m4 n4 ⟨hn4, ⟨r2, rfl, hr2, hr3⟩, rfl⟩
    have f7 := far (show n3 < n4 by omega)
    have hr4 : r2 = 0 ∨ r2 = 1 := by have := hr3 (by decide); omega
    rcases hr4 with rfl | rfl
    · simp -dsimp [f1, f2, f3, f4, f5, f6, f7]
      refine ⟨by omega, ⟨_, by simp; rfl, ⟨-1, ms⟩, hl, ⟨⟨by simp, by simp⟩, hfit⟩, rfl⟩, fun j j1 j2 => ?_, p3 + 1, by omega, by omega, by simp [f1, f2, f3, f4, f5, f6]⟩
      simp [far j1, far (show j < n2 by omega), far (show j < n3 by omega), j2]
    · simp -dsimp [f1, f2, f3, f4, f5, f6, f7]
      refine ⟨by omega, ⟨_, by simp; rfl, ⟨4, ms⟩, hl, ⟨⟨by simp, by simp⟩, hfit⟩, rfl⟩, fun j j1 j2 => ?_, p3 + 1, by omega, by omega, by simp [f1, f2, f3, f4, f5, f6]⟩
      simp [far j1, far (show j < n2 by omega), far (show j < n3 by omega), j2]
end TL

/- Drawn places. -/
set_option linter.unusedSimpArgs false
set_option linter.unusedVariables false
set_option maxRecDepth 100000
set_option maxHeartbeats 4000000
set_option pp.maxSteps 1500
namespace TL
open Go Go.Proofs
def SomePlace (x : V) : Prop := ∃ q : Place, q.story.length ≤ 10 ∧ (∀ c ∈ q.story, c.says.length ≤ 20) ∧ q.fit ∧ x = q.v
def PI1 (m0 : Mem) (n0 rid : Nat) (bs : List UInt8) (p : Nat) (k : Int) (a : Nat) (s : S) : Prop := ∃ (people : Int) (story : List Claim) (st : T) (pid c p' : Nat),
  s.tm 0 = .ptr rid 0 ∧ s.tm 1 = .v (.int .i64 k) ∧ s.tm 4 = .ptr n0 0 ∧ s.tm 5 = .ptr pid 0 ∧ (a = 1 → s.tm 6 = .v (.int .i64 c)) ∧ s.mu = false ∧ n0 < pid ∧ pid < s.n ∧ (∃ z, s.m n0 = some (.box 36 2 [.v (.int .i64 0), z])) ∧
  s.m pid = some (.box 36 2 [.v (.int .i64 people), st]) ∧ IsRow s.m (n0 + 1) s.n 80 st (story.map Claim.v) ∧ st ≠ .loc pid ∧ story.length + c ≤ 3 ∧ p ≤ p' ∧ p' + 50 * c ≤ p + 160 ∧ (∀ x ∈ story, x.says.length ≤ 20) ∧ 1 ≤ people ∧ people ≤ 4 ∧ (∀ x ∈ story, x.fit) ∧
  s.m rid = some (rdB bs p') ∧ (∀ j, j < n0 → j ≠ rid → s.m j = m0 j)
theorem fitBad : Claim.fit ⟨4, [⟨0, 0⟩]⟩ := ⟨⟨by simp, by simp⟩, by simp [fits]; exact fit_mk (by omega) (by omega) (by omega) (by omega)⟩
theorem claim_cells (c : Claim) : c.v.cells = [.int .i64 c.who, marksV c.says] := rfl
theorem place_z (bs : List UInt8) (p : Nat) (hp : p < 700000000) (k : Int) (hk0 : 0 ≤ k) (hk : k < 100000) (m : Mem) (n rid : Nat) (hr : rid < n) (hm : m rid = some (rdB bs p)) :
    FnS Tryd.prog 65 m n [.ptr rid 0, .v (.int .i64 k)] (Draws SomePlace 200 m n rid bs p) := by
  refine Draws_of hr ⟨_, Tryd.func65, rfl, rfl⟩ fun hfr => ?_
  refine FnS_of (rs := [.cell 4 36]) false Tryd.func65 rfl rfl rfl rfl (Nat.le_of_ble_eq_true rfl) ?_
  have f1 := far hr
  simp -dsimp
  refine callS_ (pick_at bs p (by omega) _ _ _ rid (by simp [hm]; omega)) ?_
  rintro t m1 n1 ⟨hn1, ⟨r, rfl, hr0, hr1⟩, rfl⟩
  have hr1 := hr1 (by decide)
  have w1 : IntKind.wrap .i64 (1 + r) = 1 + r := w64 (by omega) (by omega)
  have f2 := far (show n < n1 by omega)
  have f3 := far (show rid < n1 by omega)
  simp -dsimp [f1, f2, f3]
  refine callS_ (pick_at bs (p + 1) (by omega) _ _ _ rid (by simp [f3])) ?_
  rintro t m2 n2 ⟨hn2, ⟨c, rfl, hc0, hc1⟩, rfl⟩
  simp -dsimp
  refine twp_loopC (PI1 m n rid bs p k 1) (fun s => natOf (s.tm 6)) (PI1 m n rid bs p k 0) ?_ ?_ ?_
  · obtain ⟨c, rfl⟩ := Int.eq_ofNat_of_zero_le hc0
    have := hc1 (by decide)
    refine ⟨1 + r, [], .nil, n1, c, p + 1 + 1, by simp, by simp, by simp, by simp, by simp, by simp, by omega, by simp; omega, ⟨.nil, ?_⟩, by simp [f3, w1], .inl ⟨rfl, rfl⟩, by simp, by simp; omega, by omega, by omega, by simp, by omega, by omega, by simp, by simp, fun j j1 j2 => ?_⟩
    · simp [f1, f2, f3]
    · simp [far j1, far (show j < n1 by omega), j2]
  · rintro s ⟨people, story, st, pid, c, p', h0, h1, h4, h5, h6, hmu, hp0, hp1, ⟨z, hz⟩, hrow, hst, hne, hl, hpa, hpb, hsays, hpe0, hpe1, hfit, hrd, hout⟩
    have h6 := h6 rfl
    by_cases hc : c = 0
    · subst hc
      simp -dsimp [h6]
      exact ⟨people, story, st, pid, 0, p', h0, h1, h4, h5, fun h => by simp at h, hmu, hp0, hp1, ⟨z, hz⟩, hrow, hst, hne, hl, hpa, hpb, hsays, hpe0, hpe1, hfit, hrd, hout⟩
    · have hc1 : 0 < c := by omega
      have wc : IntKind.wrap .i64 ((c : Int) - 1) = ((c - 1 : Nat) : Int) := by rw [w64 (by omega) (by omega)]; omega
      have a1 : ¬ pid = rid := by omega
      simp -dsimp [h6, hc1]
      refine twp_draw (List.range 10) [pid] (List.replicate 10 [0]) (List.replicate 9 [0] ++ [[]]) (by kernel_rfl) (by kernel_rfl) (by kernel_rfl) (by kernel_rfl) ?_
      simp -dsimp [List.range_succ, h0, h5, hrow]
      refine callS_ (claim_z bs p' (by omega) _ _ (by omega) (by omega) (by omega) _ _ rid (by omega) hrd) ?_
      rintro t m3 n3 ⟨hn3, ⟨x, ⟨cl, hcl, hcf, rfl⟩, rfl⟩, p2, hp2, hp3, rfl⟩
      have f4 := far (show pid < n3 by omega)
      have f5 := far (show rid < n3 by omega)
      rcases hst with ⟨rfl, hs0⟩ | ⟨i, rfl, hi0, hi1, hi⟩
      · simp -dsimp [List.range_succ, h0, h5, hrow, a1, f4, f5, hmu, claim_cells, marksV, wc, hc1, h6]
        refine ⟨?_, by omega⟩
        refine st_out fun s' ht hm' hn' hu' => ?_
        have t0 := ht 0
        have t1 := ht 1
        have t4 := ht 4
        have t5 := ht 5
        have t6 := ht 6
        simp -dsimp [h0, h1, h4, h5] at t0 t1 t4 t5 t6 hm' hn' hu'
        clear ht
        have hs1 : story = [] := List.map_eq_nil_iff.1 hs0
        subst hs1
        refine ⟨people, [cl], .loc (n3 + 1), pid, c - 1, p2, t0, t1, t4, t5, fun _ => t6, by rw [hu', hmu], hp0, by omega, ⟨z, ?_⟩, by simp [hm'], .inr ⟨n3 + 1, rfl, by omega, by omega, by simp [hm', f4]⟩, by simp; omega, by simp at hl ⊢; omega, by omega, by omega, by simpa using hcl, hpe0, hpe1, by simpa using hcf, by simp [hm', f5]; omega, fun j j1 j2 => ?_⟩
        · have b2 : ¬ n = pid := by omega
          have b3 : ¬ n = rid := by omega
          simp [hm', far (show n < n3 by omega), b2, b3, hz]
        · have b2 : ¬ j = pid := by omega
          simp [hm', far (show j < n3 by omega), b2, j2, hout j j1 j2]
      · have f6 := far (show i < n3 by omega)
        have a2 : ¬ i = rid := by omega
        have a3 : ¬ pid = i := by rintro rfl; exact hne rfl
        have b1 : (story.length + 1) * 32 ≤ 140737488355328 := by omega
        simp -dsimp [List.range_succ, h0, h5, hrow, a1, a2, a3, f4, f5, f6, hi, hmu, claim_cells, marksV, wc, hc1, b1, h6]
        refine ⟨?_, by omega⟩
        refine st_out fun s' ht hm' hn' hu' => ?_
        have t0 := ht 0
        have t1 := ht 1
        have t4 := ht 4
        have t5 := ht 5
        have t6 := ht 6
        simp -dsimp [h0, h1, h4, h5] at t0 t1 t4 t5 t6 hm' hn' hu'
        clear ht
        refine ⟨people, story ++ [cl], .loc (n3 + 1), pid, c - 1, p2, t0, t1, t4, t5, fun _ => t6, by rw [hu', hmu], hp0, by omega, ⟨z, ?_⟩, by simp [hm'], .inr ⟨n3 + 1, rfl, by omega, by omega, by simp [hm', f4, f6]⟩, by simp; omega, by simp; omega, by omega, by omega, ?_, hpe0, hpe1, ?_, by simp [hm', f5, Ne.symm a2]; omega, fun j j1 j2 => ?_⟩
        · have b2 : ¬ n = pid := by omega
          have b3 : ¬ n = rid := by omega
          have b4 : ¬ n = i := by omega
          simp [hm', far (show n < n3 by omega), b2, b3, b4, hz]
        · intro y hy
          rcases List.mem_append.1 hy with hy | hy
          · exact hsays y hy
          · cases List.mem_singleton.1 hy; exact hcl
        · intro y hy
          rcases List.mem_append.1 hy with hy | hy
          · exact hfit y hy
          · cases List.mem_singleton.1 hy; exact hcf
        · have b2 : ¬ j = pid := by omega
          have b4 : ¬ j = i := by omega
          simp [hm', far (show j < n3 by omega), b2, b4, j2, hout j j1 j2]
  · rintro s ⟨people, story, st, pid, c, p', h0, h1, h4, h5, h6, hmu, hp0, hp1, ⟨z, hz⟩, hrow, hst, hne, hl, hpa, hpb, hsays, hpe0, hpe1, hfit, hrd, hout⟩
    simp -dsimp [h0, h1]
    refine callS_ (odd_at bs p' (by omega) k (by omega) _ _ rid hrd) ?_
    rintro t m3 n3 ⟨hn3, ⟨b, rfl, hb0⟩, p2, hp2, hp3, rfl⟩
    have hcell := hst.cell
    have a1 : ¬ pid = rid := by omega
    have a2 : ¬ n = pid := by omega
    have a3 : ¬ n = rid := by omega
    have f4 := far (show pid < n3 by omega)
    have f5 := far (show rid < n3 by omega)
    have f6 := far (show n < n3 by omega)
    cases b with
    | false =>
      simp -dsimp [h4, h5, hrow, a1, a2, a3, hz, hcell]
      refine ⟨by omega, ⟨_, ?_, ⟨people, story⟩, by simp; omega, hsays, ⟨⟨by simp only; omega, by simp only; omega⟩, hfit⟩, rfl⟩, fun j j1 j2 => ?_, p2, by omega, by omega, by simp [f1]⟩
      · rw [bor_agg]
        simp -dsimp only [mapO, bor_v, hst.bor (n0 := n) (m' := updM (updM s.m rid (some (rdB bs p2))) n (some (Blk.box 36 2 [T.v (V.int IntKind.i64 people), st]))) (by omega) (fun i _ i1 i2 => by rw [updM_ne _ _ (by omega), updM_ne _ _ (by omega)])]
        rfl
      · simp [far j1, j2, hout j j1 j2]
    | true =>
      simp -dsimp [h0]
      refine callS_ (pick_at bs p2 (by omega) _ _ _ rid (by simp)) ?_
      rintro t m4 n4 ⟨hn4, ⟨r2, rfl, hr2, hr3⟩, rfl⟩
      have hr4 : r2 = 0 ∨ r2 = 1 ∨ r2 = 2 := by have := hr3 (by decide); omega
      rcases hr4 with rfl | rfl | rfl
      · rcases hst with ⟨rfl, hs0⟩ | ⟨i, rfl, hi0, hi1, hi⟩
        · simp -dsimp [h4, h5, hrow, a1, a2, a3, hz, hmu, far (show pid < n4 by omega), far (show n < n4 by omega)]
          refine ⟨by omega, ⟨_, by simp [far (show pid < n4 by omega), far (show n < n4 by omega), show n ≤ n4 + 1 + 1 by omega]; rfl, ⟨people, [⟨4, [⟨0, 0⟩]⟩]⟩, by simp, by simp, ⟨⟨by simp only; omega, by simp only; omega⟩, by simpa using fitBad⟩, rfl⟩, fun j j1 j2 => ?_, p2 + 1, by omega, by omega, by simp [f1, Ne.symm a1, far (show rid < n4 by omega)]⟩
          have b2 : ¬ j = pid := by omega
          simp [far j1, far (show j < n4 by omega), j2, b2, hout j j1 j2]
        · have b1 : (story.length + 1) * 32 ≤ 140737488355328 := by omega
          have b2 : ¬ i = rid := by omega
          have b3 : ¬ pid = i := by rintro rfl; exact hne rfl
          have b4 : ¬ n = i := by omega
          simp -dsimp [h4, h5, hrow, a1, a2, a3, hz, hmu, b1, b2, b3, b4, hi, far (show pid < n4 by omega), far (show n < n4 by omega), far (show i < n4 by omega), claim_cells, marksV]
          refine ⟨by omega, ⟨(⟨people, story ++ [⟨4, [⟨0, 0⟩]⟩]⟩ : Place).v, by simp [show n ≤ n4 + 1 + 1 by omega, far (show pid < n4 by omega), far (show n < n4 by omega), far (show i < n4 by omega), Place.v, storyV, Claim.v, marksV, Mark.v], ⟨people, story ++ [⟨4, [⟨0, 0⟩]⟩]⟩, by simp; omega, ?_, ⟨⟨by simp only; omega, by simp only; omega⟩, ?_⟩, rfl⟩, fun j j1 j2 => ?_, p2 + 1, by omega, by omega, by simp [f1, Ne.symm a1, Ne.symm b2, far (show rid < n4 by omega)]⟩
          · intro y hy
            rcases List.mem_append.1 hy with hy | hy
            · exact hsays y hy
            · cases List.mem_singleton.1 hy; simp
          · intro y hy
            rcases List.mem_append.1 hy with hy | hy
            · exact hfit y hy
            · cases List.mem_singleton.1 hy; exact fitBad
          · have c2 : ¬ j = pid := by omega
            have c3 : ¬ j = i := by omega
            simp [far j1, far (show j < n4 by omega), j2, c2, c3, hout j j1 j2]
      · simp -dsimp [h4, h5, hrow, a1, a2, a3, hz, hcell]
        refine ⟨by omega, ⟨_, ?_, ⟨5, story⟩, by simp; omega, hsays, ⟨⟨by simp, by simp⟩, hfit⟩, rfl⟩, fun j j1 j2 => ?_, p2 + 1, by omega, by omega, by simp [f1, Ne.symm a1]⟩
        · rw [bor_agg]
          simp -dsimp only [mapO, bor_v, hst.bor (n0 := n) (m' := updM (updM (updM s.m rid (some (rdB bs (p2 + 1)))) pid (some (Blk.box 36 2 [T.v (V.int IntKind.i64 5), st]))) n (some (Blk.box 36 2 [T.v (V.int IntKind.i64 5), st]))) (by omega) (fun i hi i1 i2 => by rw [updM_ne _ _ (by omega), updM_ne _ _ (by rintro rfl; exact hne hi), updM_ne _ _ (by omega)])]
          rfl
        · have b2 : ¬ j = pid := by omega
          simp [far j1, j2, b2, hout j j1 j2]
      · simp -dsimp [h4, h5, hrow, a1, a2, a3, hz]
        refine ⟨by omega, ⟨_, by simp; rfl, ⟨0, []⟩, by simp, by simp, ⟨⟨by simp, by simp⟩, by simp⟩, rfl⟩, fun j j1 j2 => ?_, p2 + 1, by omega, by omega, by simp [f1]⟩
        simp [far j1, j2, hout j j1 j2]
end TL

/- Drawn arguments of the statements. -/
set_option linter.unusedSimpArgs false
set_option linter.unusedVariables false
set_option maxRecDepth 100000
set_option maxHeartbeats 4000000
set_option pp.maxSteps 1500
namespace TL
open Go Go.Proofs
/-- What a function that draws from a code leaves: some value of a kind. -/
def Drawn (R : V → Prop) (m : Mem) (n : Nat) (t : T) (m' : Mem) (n' : Nat) : Prop := n ≤ n' ∧ (∃ x, R x ∧ t = .v x) ∧ m' = m
def DrawnPost (R : V → Prop) (m0 : Mem) (n0 : Nat) (t : T) (m' : Mem) (n' : Nat) : Prop := n0 ≤ n' ∧ (∃ x, bor true (upper n0 m') 4 t = some x ∧ R x) ∧ ∀ j, j < n0 → m' j = m0 j
theorem Drawn_of {f : Nat} {args : List T} {R : V → Prop} {m : Mem} {n : Nat} (hf : ∃ fn, Tryd.prog.funcs[f]? = some fn ∧ (fn.name == "runtime.NumGoroutine") = false ∧ fn.body.isNone = false)
    (h : (∀ j, n ≤ j → m j = none) → FnS Tryd.prog f m n args (DrawnPost R m n)) : FnS Tryd.prog f m n args (Drawn R m n) := by
  refine FnS_fresh hf fun hfr => ?_
  refine (h hfr).frz ?_
  rintro t m' n' ⟨hn, ⟨x, hx, hR⟩, hout⟩
  refine ⟨x, m, upper n m', ?_, ?_, ?_, hx, hn, ⟨x, hR, rfl⟩, rfl⟩
  · intro j b hb
    by_cases h : j < n
    · rw [hout j h, hb]
    · rw [hfr j (by omega)] at hb; cases hb
  · intro j b hb
    by_cases h : n ≤ j
    · simpa [h] using hb
    · simp [h] at hb
  · intro j
    by_cases h : n ≤ j
    · left; exact hfr j h
    · right; simp [h]
theorem open_at (bs : List UInt8) (m : Mem) (n : Nat) : FnS Tryd.prog 66 m n [.v (codeV bs)] (fun t m' n' => t = .ptr n 0 ∧ n' = n + 1 ∧ m' = updM m n (some (rdB (bs.take 2000) 0))) := open_fn bs m n
end TL
