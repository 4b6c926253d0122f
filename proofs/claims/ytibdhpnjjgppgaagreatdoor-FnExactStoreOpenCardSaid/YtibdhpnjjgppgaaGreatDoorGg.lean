/- TL: parts FnsL2, FnsE8, FnsJ5, FnsJ6, FnsE9, FnsE10, FnsE11, FnsJ7, Fns16, TlOwn, TlLend, FnsJ8, FnsJB, FnsJC, FnsJ9, TlUp. -/
import Derived.Test.YtibdhpnjjgppgaaGreatDoorGf
import Derived.Test.YtibdhpnjjgppgaaGreatDoorShelfB
import Derived.KernelRfl
import Derived.Test.YtibdhpnjjgppgaaGreatDoorGd
import Derived.Test.YtibdhpnjjgppgaaGreatDoorGc
/- The library's functions, off the shelf: texts split. -/
set_option linter.unusedSimpArgs false
set_option linter.unusedVariables false
set_option maxRecDepth 100000
namespace TL
open Go Go.Proofs Go.RowKit
section
variable {P : Program}
theorem strs_new {Z : Zs} {w : World} : ∀ (bs : List ByteArray), RepEs Z w 1 ((bs.map (·.data.toList)).map V.str) (bs.map Value.string)
  | [] => .nil 1
  | b :: bs => .one rfl (.str rfl) (strs_new bs)
theorem strs_alloc {Z : Zs} {w : World} (bs : List ByteArray) (t : TypeId) (hl : bs.length ≤ maxLen) :
    RepV (freshZ Z w.heap.size (w.alloc (.cells (bs.map Value.string).toArray t)).heap.size) (w.alloc (.cells (bs.map Value.string).toArray t)) (.sl ((bs.map (·.data.toList)).map V.str)) (.slice (some ⟨w.heap.size, 0, none⟩) bs.length bs.length) := by
  refine .sl (strs_new bs) (by simp) (Nat.le_refl _) hl fun i u hu => ?_
  rw [add_lit]
  refine ⟨?_, .inr ⟨Nat.le_refl _, ?_⟩⟩
  · rw [World.cell?_alloc_new]
    simpa using hu
  · show w.heap.size < (w.heap.push _).size
    simp
theorem split_FnZ {ρ : Go.Shelf.Ren} (L : Go.Proofs.Lays.n146 P ρ) (hi9 : (P.info? (ρ.t 9)).map (fun i => (i.zero, i.size, i.bytes)) = some (some (.string ByteArray.empty), 1, 16)) (hf : ∃ fn, P.funcs[ρ.f 146]? = some fn ∧ (fn.name == "runtime.NumGoroutine") = false ∧ fn.body.isNone = false)
    (hg : P.globalNamed "internal/bytealg.MaxLen" = some (ρ.g 1)) (s : List UInt8) (c : UInt8) (hs : s.length < 4294967281) : FnZ P (ρ.f 146) [.str s, .str [c]] (.sl ((cutAt c s).map V.str)) := by
  refine FnZ_calls hf fun Z w vs hz hv => ?_
  cases hv with | cons h1 hv => cases hv with | cons h2 hv => cases hv with | nil =>
    cases h1 with
    | @str _ b hb =>
      cases h2 with
      | @str _ bsep hb2 =>
        have hq : GQ P (ρ.g 1) (fun v => ∃ m, v = .int .i64 m) := GQ.maxLen hg
        obtain ⟨_, v, hc, m, rfl⟩ := hz.gl _ _ hq
        have hsz : b.size = s.length := by rw [← hb]; rfl
        have hsz2 : bsep.size = 1 := by have := congrArg List.length hb2; simpa using this
        have e1 : (Go.Lib.splitB bsep 0 (Go.Lib.countB b bsep) b).map (·.data.toList) = cutAt c s := by
          rw [Go.Lib.splitB_data]
          show Go.Lib.splitK bsep.data.toList 0 (Go.Lib.count b.data.toList bsep.data.toList) b.data.toList = _
          rw [hb, hb2]; exact split_is_cut c s
        have hlen := Go.Lib.splitB_all bsep (by omega) 0 _ b rfl
        have hle := cutAt_len c s
        have hlen2 : (Go.Lib.splitB bsep 0 (Go.Lib.countB b bsep) b).length = (cutAt c s).length := by rw [← e1, List.length_map]
        refine calls_mono (Any.strings_Split L hi9 b bsep m w (by omega) hc (by omega)) ?_
        rintro e w' ⟨rfl, rfl⟩
        refine ⟨_, rfl, (Below.refl _ _).alloc (Nat.le_refl _) _, ?_⟩
        rw [← hlen, ← e1]
        exact strs_alloc _ _ (by rw [hlen2]; simp only [maxLen]; omega)
end
theorem split_fn (s : List UInt8) (c : UInt8) (hs : s.length < 4294967281) : FnZ Tryz.prog 106 [.str s, .str [c]] (.sl ((cutAt c s).map V.str)) :=
  split_FnZ Tryz.lays146 (by kernel_rfl) ⟨_, Tryz.func106, rfl, rfl⟩ (by kernel_rfl) s c hs
end TL

/- Reading places: the program. -/
set_option linter.unusedSimpArgs false
set_option linter.unusedVariables false
set_option maxRecDepth 100000
set_option maxHeartbeats 4000000
set_option pp.maxSteps 1500
namespace TL
open Go Go.Proofs
attribute [local simp] marksV storyV codeV Claim.v Place.v
def optP (o : Option Place) : V := .tup [(o.getD ⟨0, []⟩).v, .bool o.isSome]
theorem readP_short {s : List UInt8} (h : s.length < 3) : readP s = none := readP_none fun p hp hs => by
  rw [placeTx_shape hp] at hs
  have := restTx_pos hp
  have h1 := List.length_pos_iff.2 this
  rw [← hs] at h; simp only [List.length_cons] at h; omega
theorem readP_blank {a b : UInt8} {s : List UInt8} (h : b ≠ 32) : readP (a :: b :: s) = none := readP_none fun p hp hs => by
  rw [placeTx_shape hp] at hs
  exact h (List.cons.inj (List.cons.inj hs).2).1.symm
theorem reads_next {D : Int} {ps : List (List UInt8)} {i : Nat} {l : List Claim} {c : Claim} (hi : i < ps.length) (h : (ps.take i).map (readC D) = l.map some) (hc : readC D ps[i] = some c) : (ps.take (i + 1)).map (readC D) = (l ++ [c]).map some := by
  rw [List.take_succ_eq_append_getElem hi, List.map_append, List.map_append, h]
  simp [hc]
theorem reads_len {D : Int} {ps : List (List UInt8)} {i : Nat} {l : List Claim} (h : (ps.take i).map (readC D) = l.map some) : l.length ≤ i := by
  have := congrArg List.length h
  rw [List.length_map, List.length_map, List.length_take] at this; omega
def Irp (s rest : List UInt8) (D : Int) (e : Nat) (x : S) : Prop := ∃ (i : Nat) (l : List Claim) (row : T), x.tm 0 = .v (.str s) ∧ x.tm 2 = .ptr 0 0 ∧ x.m 0 = some (.box 34 2 [.v (.int .i64 0), .nil]) ∧ x.tm 4 = .ptr 1 0 ∧
  x.m 1 = some (.box 34 2 [.v (.int .i64 D), row]) ∧ (row = .nil ∧ l = [] ∨ ∃ id, row = .loc id ∧ 1 < id ∧ id < x.n ∧ x.m id = some (.arr 74 (l.map Claim.v))) ∧
  x.tm 28 = .v (.sl ((cutAt 44 rest).map V.str)) ∧ x.tm 29 = .v (.int .i64 (cutAt 44 rest).length) ∧ x.tm 30 = .v (.int .i64 i) ∧ x.mu = false ∧ 1 < x.n ∧ i ≤ (cutAt 44 rest).length ∧ ((cutAt 44 rest).take i).map (readC D) = l.map some ∧ (e = 1 → i = (cutAt 44 rest).length)
theorem readPlace_fn (s : List UInt8) (hl : s.length ≤ 2000000000) : FnZ Tryz.prog 83 [.str s] (optP (readP s)) := by
  by_cases h3 : s.length < 3
  · have h3' : (s.length : Int) < 3 := by omega
    rw [readP_short h3]
    refine FnZ_of (rs := [.cell 2 34, .tmp 3]) false Tryz.func83 rfl rfl rfl rfl (Nat.le_of_ble_eq_true rfl) ?_
    simp -dsimp [h3, h3', optP]
  match s, h3, hl with
  | [], h3, hl => simp at h3
  | [a], h3, hl => simp at h3
  | a :: b :: rest, h3, hl =>
    have h3' : ¬ ((rest.length : Int) + 1 + 1 < 3) := by simp at h3; omega
    have hls : rest.length ≤ 2000000000 := by simp at hl; omega
    have l2 : (2 : Int) ≤ (rest.length : Int) + 1 + 1 := by omega
    have l3 : ((rest.length : Int) + 1 + 1).toNat = rest.length + 1 + 1 := by omega
    have l4 : (0 : Int) < (rest.length : Int) + 1 + 1 := by omega
    have l5 : (1 : Int) < (rest.length : Int) + 1 + 1 := by omega
    by_cases hb : b = 32
    case neg =>
      have hb' : ¬ (b.toNat : Int) = 32 := fun h => hb (UInt8.toNat.inj (by show b.toNat = 32; omega))
      rw [readP_blank hb]
      refine FnZ_of (rs := [.cell 2 34, .tmp 3]) false Tryz.func83 rfl rfl rfl rfl (Nat.le_of_ble_eq_true rfl) ?_
      simp -dsimp [h3', l4, l5, hb', optP]
    subst hb
    have hlt := UInt8.toNat_lt a
    have w1 : IntKind.wrap .i64 ((a.toNat : Int) - 48) = (a.toNat : Int) - 48 := w64 (by omega) (by omega)
    have w2 : IntKind.wrap .i64 (a.toNat : Int) = (a.toNat : Int) := w64 (by omega) (by omega)
    have hpt := parts_one (a := a) (rest := rest)
    have hsl : (a :: 32 :: rest).length = rest.length + 1 + 1 := rfl
    generalize hD : (a.toNat : Int) - 48 = D at *
    by_cases hd : rest = [46]
    · have he := readP_end (l := []) hpt (.inl ⟨hd, rfl⟩)
      have hT := placeText_fn ⟨D, []⟩ (by simp)
      rw [he]
      subst hd
      clear he hpt
      generalize placeTx ⟨D, []⟩ = tx at *
      refine FnZ_of (rs := [.cell 2 34, .tmp 3]) false Tryz.func83 rfl rfl rfl rfl (Nat.le_of_ble_eq_true rfl) ?_
      by_cases hx : tx = [a, 32, 46]
      · simp -dsimp [w1, w2, hD]
        refine call_ hT (by simp -dsimp) ?_
        simp -dsimp [hx, optP]
      · simp -dsimp [w1, w2, hD]
        refine call_ hT (by simp -dsimp) ?_
        simp -dsimp [hx, optP]
    have hsp := split_fn rest 44 (by omega)
    refine FnZ_of (rs := [.cell 2 34, .tmp 3]) false Tryz.func83 rfl rfl rfl rfl (Nat.le_of_ble_eq_true rfl) ?_
    simp -dsimp [h3', l2, l3, l4, l5, w1, w2, hD, hd]
    refine call_ hsp (by simp -dsimp) ?_
    simp -dsimp [h3', l2, l3, l4, l5, w1, w2, hD, hd]
    refine twp_loopC (Irp (a :: 32 :: rest) rest D 0) (fun x => (cutAt 44 rest).length - natOf (x.tm 30)) (Irp (a :: 32 :: rest) rest D 1) ?_ ?_ ?_
    · exact ⟨0, [], .nil, by simp -dsimp, by simp -dsimp, by simp -dsimp, by simp -dsimp, by simp -dsimp, .inl ⟨rfl, rfl⟩, by simp -dsimp, by simp -dsimp, by simp -dsimp, by simp -dsimp, by simp -dsimp, by omega, by simp, by simp⟩
    · rintro x ⟨i, l, row, t0, t2, m0, t4, m1, hrow, t28, t29, t30, hmu, hn, hi, hrd, hend⟩
      by_cases hlt : i < (cutAt 44 rest).length
      case neg =>
        simp -dsimp [t29, t30, hlt]
        exact ⟨i, l, row, by simp -dsimp [t0], by simp -dsimp [t2], by simp -dsimp [m0], by simp -dsimp [t4], by simp -dsimp [m1], by simpa -dsimp using hrow, by simp -dsimp [t28], by simp -dsimp [t29], by simp -dsimp [t30], by simp -dsimp [hmu], by simp -dsimp [hn], hi, hrd, fun _ => by omega⟩
      have hget : ((cutAt 44 rest).map V.str)[i]? = some (.str (cutAt 44 rest)[i]) := by simp [hlt]
      have wi : IntKind.wrap .i64 ((i : Int) + 1) = ((i + 1 : Nat) : Int) := by
        have := cutAt_len 44 rest
        rw [w64 (by omega) (by omega)]; omega
      have hmu1 : (cutAt 44 rest).length - (i + 1) < (cutAt 44 rest).length - i := by omega
      have hpl := cutAt_piece (List.getElem_mem hlt)
      have hrc := readClaim_fn D (cutAt 44 rest)[i] (by omega)
      have hmem := List.getElem_mem hlt
      have hnx : ∀ c, readC D (cutAt 44 rest)[i] = some c → _ := fun c => reads_next (c := c) hlt hrd
      have hno := readP_piece hpt hd _ hmem
      have hll := reads_len hrd
      have hcl := cutAt_len 44 rest
      have f0 := far (show 0 < x.n by omega)
      have f1 := far hn
      generalize readC D (cutAt 44 rest)[i] = o at *
      cases o with
      | none =>
        rw [hno rfl]
        simp -dsimp [t28, t29, t30, t4, m1, hlt, hget, f1]
        refine call_ hrc (by simp -dsimp) ?_
        simp -dsimp [optC, optP, t2, m0, f0, f1]
      | some c =>
        have hn1 := hnx c rfl
        clear hnx hno
        rcases hrow with ⟨rfl, rfl⟩ | ⟨id, rfl, hid1, hid, hm⟩
        · simp -dsimp [t28, t29, t30, t4, m1, hlt, hget, f1]
          refine call_ hrc (by simp -dsimp) ?_
          simp -dsimp [optC, optP, t2, t4, t30, m0, m1, hmu, f0, f1, wi, hmu1, nes]
          refine st_out fun s' ht hm' hn' hu' => ?_
          have a0 := ht 0
          have a2 := ht 2
          have a4 := ht 4
          have a28 := ht 28
          have a29 := ht 29
          have a30 := ht 30
          simp -dsimp [t0, t2, t4, t28, t29, wi] at a0 a2 a4 a28 a29 a30 hm' hn' hu'
          clear ht
          refine ⟨i + 1, _, .loc (x.n + 1 + 1 + 1), a0, a2, by simp [hm', f0, nes, m0], a4, by simp [hm', f1, nes, m1], .inr ⟨_, rfl, by omega, by omega, ?_⟩, a28, a29, a30, by rw [hu', hmu], by omega, by omega, hn1, by simp⟩
          simp [hm', nes]
        · have f2 := far hid
          have g0 : ¬ id = 0 := by omega
          have g1 : ¬ id = 1 := by omega
          have b1 : (l.length + 1) * 32 ≤ 140737488355328 := by omega
          simp -dsimp [t28, t29, t30, t4, m1, hlt, hget, f1]
          refine call_ hrc (by simp -dsimp) ?_
          simp -dsimp [optC, optP, t2, t4, t30, m0, m1, hm, hmu, f0, f1, f2, b1, wi, hmu1, nes, g0, g1, Ne.symm g0, Ne.symm g1]
          refine st_out fun s' ht hm' hn' hu' => ?_
          have a0 := ht 0
          have a2 := ht 2
          have a4 := ht 4
          have a28 := ht 28
          have a29 := ht 29
          have a30 := ht 30
          simp -dsimp [t0, t2, t4, t28, t29, wi] at a0 a2 a4 a28 a29 a30 hm' hn' hu'
          clear ht
          refine ⟨i + 1, _, .loc (x.n + 1 + 1 + 1), a0, a2, by simp [hm', f0, nes, Ne.symm g0, Ne.symm g1, f0, m0], a4, by simp [hm', f1, nes, Ne.symm g1, f1, m1], .inr ⟨_, rfl, by omega, by omega, ?_⟩, a28, a29, a30, by rw [hu', hmu], by omega, by omega, hn1, by simp⟩
          simp [hm', nes]
    · rintro x ⟨i, l, row, t0, t2, m0, t4, m1, hrow, t28, t29, t30, hmu, hn, hi, hrd, hend⟩
      have hil := hend rfl
      have hll := reads_len hrd
      have hcl := cutAt_len 44 rest
      rw [hil, List.take_length] at hrd
      have he := readP_end hpt (.inr ⟨hd, hrd⟩)
      have hT := placeText_fn ⟨D, l⟩ (by simp only; omega)
      rw [he]
      clear he hpt
      generalize placeTx ⟨D, l⟩ = tx at *
      have f0 := far (show 0 < x.n by omega)
      have f1 := far hn
      rcases hrow with ⟨rfl, rfl⟩ | ⟨id, rfl, hid1, hid, hm⟩
      · by_cases hx : tx = a :: 32 :: rest
        · simp -dsimp [t4, m1, f1]
          refine call_ hT (by simp -dsimp) ?_
          simp -dsimp [t0, t2, t4, m0, m1, hx, optP]
        · simp -dsimp [t4, m1, f1]
          refine call_ hT (by simp -dsimp) ?_
          simp -dsimp [t0, t2, t4, m0, m1, hx, optP]
      · have f2 := far hid
        have g0 : ¬ id = 0 := by omega
        have g1 : ¬ id = 1 := by omega
        by_cases hx : tx = a :: 32 :: rest
        · simp -dsimp [t4, m1, f1]
          refine call_ hT (by simp -dsimp [hm]) ?_
          simp -dsimp [t0, t2, t4, m0, m1, hm, hx, optP, g0, g1, f0, f1, f2]
        · simp -dsimp [t4, m1, f1]
          refine call_ hT (by simp -dsimp [hm]) ?_
          simp -dsimp [t0, t2, t4, m0, m1, hm, hx, optP, g0, g1, f0, f1, f2]
end TL

/- Rows of claims whose rows of marks are the caller's own: marked, and held. -/
set_option linter.unusedSimpArgs false
set_option linter.unusedVariables false
set_option maxRecDepth 100000
set_option maxHeartbeats 4000000
set_option pp.maxSteps 1500
namespace TL
open Go Go.Proofs
attribute [local simp] marksV storyV codeV Claim.v Place.v
def clT : List Claim → List Nat → List T
  | c :: l, j :: js => .v (.int .i64 c.who) :: .sv j 0 c.says.length :: clT l js
  | _, _ => []
@[simp] theorem clT_nil (js : List Nat) : clT [] js = [] := by cases js <;> rfl
@[simp] theorem clT_cons (c : Claim) (l : List Claim) (j : Nat) (js : List Nat) : clT (c :: l) (j :: js) = .v (.int .i64 c.who) :: .sv j 0 c.says.length :: clT l js := rfl
theorem clT_app : ∀ (A B : List Claim) (ja jb : List Nat), A.length = ja.length → clT (A ++ B) (ja ++ jb) = clT A ja ++ clT B jb
  | [], B, [], jb, h => rfl
  | c :: A, B, j :: ja, jb, h => by simp [clT_app A B ja jb (by simpa using h)]
  | [], B, j :: ja, jb, h => by simp at h
  | c :: A, B, [], jb, h => by simp at h
theorem clT_len : ∀ (A : List Claim) (ja : List Nat), A.length = ja.length → (clT A ja).length = A.length * 2
  | [], [], h => rfl
  | c :: A, j :: ja, h => by simp [clT_len A ja (by simpa using h)]; omega
  | [], j :: ja, h => by simp at h
  | c :: A, [], h => by simp at h
theorem clT_cells : ∀ (A : List Claim) (ja : List Nat), allC (clT A ja)
  | [], ja => by simp
  | c :: A, [] => by simp [clT]
  | c :: A, j :: ja => by simp; exact clT_cells A ja
/-- The rows of marks lie where the ids say. -/
def Says (m : Mem) : List Claim → List Nat → Prop
  | [], [] => True
  | c :: l, j :: js => m j = some (.box 126 2 (mkT c.says)) ∧ Says m l js
  | _, _ => False
theorem Says.len {m : Mem} : ∀ {l : List Claim} {js : List Nat}, Says m l js → l.length = js.length
  | [], [], _ => rfl
  | c :: l, j :: js, h => by simp [Says.len h.2]
  | [], j :: js, h => h.elim
  | c :: l, [], h => h.elim
theorem Says.keep {m m' : Mem} : ∀ {l : List Claim} {js : List Nat}, Says m l js → (∀ j ∈ js, m' j = m j) → Says m' l js
  | [], [], _, _ => trivial
  | c :: l, j :: js, h, hk => ⟨by rw [hk j (by simp)]; exact h.1, h.2.keep fun x hx => hk x (by simp [hx])⟩
  | [], j :: js, h, _ => h.elim
  | c :: l, [], h, _ => h.elim
theorem Says.app {m : Mem} : ∀ {A B : List Claim} {ja jb : List Nat}, A.length = ja.length → (Says m (A ++ B) (ja ++ jb) ↔ Says m A ja ∧ Says m B jb)
  | [], B, [], jb, h => by simp [Says]
  | c :: A, B, j :: ja, jb, h => by
    have := Says.app (m := m) (A := A) (B := B) (ja := ja) (jb := jb) (by simpa using h)
    simp only [List.cons_append, Says, this, and_assoc]
  | [], B, j :: ja, jb, h => by simp at h
  | c :: A, B, [], jb, h => by simp at h
theorem clT_bor {m : Mem} (d : Nat) : ∀ {l : List Claim} {js : List Nat}, Says m l js → mapO (bor true m (d + 1)) (clT l js) = some (l.flatMap fun c => c.v.cells)
  | [], [], _ => rfl
  | c :: l, j :: js, h => by
    have e := bor_marks (m := m) (i := j) (e := 126) (ms := c.says) d h.1
    have e2 := clT_bor d h.2
    simp only [marksV] at e
    simp [mapO, e, e2, V.cells]
  | [], j :: js, h => h.elim
  | c :: l, [], h => h.elim
theorem clV_cell (l : List Claim) : ∀ x ∈ (l.flatMap fun c => c.v.cells), x.cell = true := by
  intro x hx
  obtain ⟨p, _, hp⟩ := List.mem_flatMap.1 hx
  simp [V.cells] at hp
  rcases hp with rfl | rfl <;> rfl
theorem clV_chunk (l : List Claim) : chunk 2 l.length (l.flatMap fun c => c.v.cells) = l.map Claim.v := by
  induction l with
  | nil => rfl
  | cons x xs ih => simp [chunk, V.cells]; simpa [V.cells] using ih
theorem bor_claims {m : Mem} {i e : Nat} {l : List Claim} {js : List Nat} (d : Nat) (h : m i = some (.box e 2 (clT l js))) (hs : Says m l js) : bor true m (d + 2) (.sv i 0 l.length) = some (.sl (l.map Claim.v)) := by
  have hl := clT_len l js hs.len
  have c1 : 0 + l.length * 2 ≤ (clT l js).length := by omega
  show (match m i with | some (.box _ z cs) => tst (0 + l.length * z ≤ cs.length) (obind (mapO (TL.bor true m (d + 1)) ((cs.drop 0).take (l.length * z))) fun xs => tst (∀ x ∈ xs, x.cell = true) (some (V.sl (chunk z l.length xs)))) | _ => none) = _
  rw [h]
  show tst (0 + l.length * 2 ≤ (clT l js).length) (obind (mapO (TL.bor true m (d + 1)) (((clT l js).drop 0).take (l.length * 2))) fun xs => tst (∀ x ∈ xs, x.cell = true) (some (V.sl (chunk 2 l.length xs)))) = _
  rw [tst_pos c1, List.drop_zero, List.take_of_length_le (by omega), clT_bor d hs, obind_some, tst_pos (clV_cell l), clV_chunk]
/-! Marks. -/
def mkc (k : Int) : List Claim → List Claim
  | [] => []
  | c :: l => ⟨k, cnts (k + 1) c.says.length⟩ :: mkc (k + 1 + 2 * c.says.length) l
def mkn (k : Int) : List Claim → Int
  | [] => k
  | c :: l => mkn (k + 1 + 2 * c.says.length) l
theorem mkn_ge : ∀ (l : List Claim) (k : Int), k + l.length ≤ mkn k l
  | [], k => by simp [mkn]
  | c :: l, k => by have := mkn_ge l (k + 1 + 2 * c.says.length); simp only [mkn, List.length_cons]; omega
@[simp] theorem mkc_length : ∀ (l : List Claim) (k : Int), (mkc k l).length = l.length
  | [], k => rfl
  | c :: l, k => by simp [mkc, mkc_length l]
def Imc (id : Nat) (l : List Claim) (js : List Nat) (k : Int) (m0 : Mem) (n0 : Nat) (e : Nat) (s : S) : Prop := ∃ (i : Nat) (A B : List Claim) (ja jb : List Nat) (kk : Int), s.tm 0 = .sv id 0 l.length ∧ s.tm 1 = .v (.int .i64 kk) ∧ s.tm 5 = .v (.int .i64 i) ∧ A.length = i ∧ ja.length = i ∧ i + B.length = l.length ∧ ja ++ jb = js ∧
  n0 ≤ s.n ∧ s.m id = some (.box 74 2 (clT (A ++ B) js)) ∧ Says s.m (A ++ B) js ∧ mkc k l = A ++ mkc kk B ∧ mkn k l = mkn kk B ∧ 0 ≤ kk ∧ (∀ j, j < n0 → j ≠ id → j ∉ js → s.m j = m0 j) ∧ (∀ c ∈ B, c.says.length ≤ 1000000000) ∧ (e = 1 → B = [])
theorem cell_set (A : List T) (x y : T) (B : List T) (i : Nat) (h : A.length = i) : (A ++ x :: B).set i y = A ++ y :: B := by
  rw [List.set_append_right _ _ (by omega), h, Nat.sub_self]; rfl
theorem markClaimS_fn (l : List Claim) (js : List Nat) (k : Int) (hk0 : 0 ≤ k) (hk : mkn k l ≤ 100000000000000) (m : Mem) (n id : Nat) (hid : id < n) (hjs : ∀ j ∈ js, j < n) (hnd : js.Nodup) (hin : id ∉ js) (hm : m id = some (.box 74 2 (clT l js))) (hs : Says m l js) (hl : ∀ c ∈ l, c.says.length ≤ 1000000000) :
    FnS Tryz.prog 78 m n [.sv id 0 l.length, .v (.int .i64 k)] (fun t m' n' => t = .v (.int .i64 (mkn k l)) ∧ n ≤ n' ∧ m' id = some (.box 74 2 (clT (mkc k l) js)) ∧ Says m' (mkc k l) js ∧ ∀ j, j < n → j ≠ id → j ∉ js → m' j = m j) := by
  refine FnS_of (rs := [.tmp 4]) false Tryz.func78 rfl rfl rfl rfl (Nat.le_of_ble_eq_true rfl) ?_
  have hge := mkn_ge l k
  simp -dsimp
  refine twp_loopC (Imc id l js k m n 0) (fun s => l.length - natOf (s.tm 5)) (Imc id l js k m n 1) ?_ ?_ ?_
  · exact ⟨0, [], l, [], js, k, by simp -dsimp, by simp -dsimp, by simp -dsimp, rfl, rfl, by omega, rfl, by simp -dsimp, by simpa -dsimp using hm, by simpa -dsimp using hs, rfl, rfl, hk0, fun j _ _ _ => by simp -dsimp, hl, by simp⟩
  · rintro s ⟨i, A, B, ja, jb, kk, t0, t1, t5, hA, hja, hB, hjj, hn, hmm, hss, hmk, hmn, hk1, hout, hbl, hend⟩
    cases B with
    | nil =>
      have hlt : ¬ i < l.length := by simp at hB; omega
      simp -dsimp [t0, t5, hlt]
      exact ⟨i, A, [], ja, jb, kk, by simp -dsimp [t0], by simp -dsimp [t1], by simp -dsimp [t5], hA, hja, hB, hjj, by simp -dsimp [hn], by simp -dsimp [hmm], hss, hmk, hmn, hk1, fun j j1 j2 j3 => by simp -dsimp [hout j j1 j2 j3], hbl, fun _ => rfl⟩
    | cons c B =>
      have hlt : i < l.length := by simp at hB; omega
      have hlen := hss.len
      cases jb with
      | nil => exfalso; rw [← hjj] at hlen; simp at hlen; omega
      | cons j jb =>
        subst hjj
        have hAj : A.length = ja.length := by omega
        have hjm : j ∈ ja ++ j :: jb := by simp
        have hsA := (Says.app hAj).1 hss
        have hjj := hsA.2.1
        have hji : ¬ j = id := fun e => hin (e ▸ hjm)
        have hij : ¬ id = j := fun e => hji e.symm
        have hjn := hjs j hjm
        have ecl : clT (A ++ c :: B) (ja ++ j :: jb) = clT A ja ++ .v (.int .i64 c.who) :: .sv j 0 c.says.length :: clT B jb := by rw [clT_app _ _ _ _ hAj]; rfl
        have hAl : (clT A ja).length = i * 2 := by rw [clT_len _ _ hAj, hA]
        have hset := cell_set (clT A ja) (.v (.int .i64 c.who)) (.v (.int .i64 kk)) (.sv j 0 c.says.length :: clT B jb) (i * 2) hAl
        have hll : (clT A ja ++ T.v (.int .i64 c.who) :: .sv j 0 c.says.length :: clT B jb).length = i * 2 + 2 + (clT B jb).length := by simp [hAl]; omega
        have hg1 : (clT A ja ++ T.v (.int .i64 kk) :: .sv j 0 c.says.length :: clT B jb)[i * 2 + 1]? = some (.sv j 0 c.says.length) := by
          rw [List.getElem?_append_right (by omega), hAl]; simp
        have hcl := hbl c (by simp)
        have hmnl := mkn_ge B (kk + 1 + 2 * c.says.length)
        have hmn2 : mkn k l = mkn (kk + 1 + 2 * c.says.length) B := hmn
        rw [hmn2] at hk
        have wi : IntKind.wrap .i64 ((i : Int) + 1) = ((i + 1 : Nat) : Int) := by rw [w64 (by omega) (by omega)]; omega
        have w1 : IntKind.wrap .i64 (kk + 1) = kk + 1 := w64 (by omega) (by omega)
        have hmu : l.length - (i + 1) < l.length - i := by omega
        have hlt' : (i : Int) < (l.length : Int) := by omega
        have f1 := far (show id < s.n by omega)
        have f2 := far (show j < s.n by omega)
        rw [ecl] at hmm
        have o1 : i * 2 + 1 ≤ i * 2 + 2 + (clT B jb).length := by omega
        have o2 : i * 2 + 1 + 1 ≤ i * 2 + 2 + (clT B jb).length := by omega
        have o3 : i * 2 < i * 2 + 2 + (clT B jb).length := by omega
        generalize hc1 : clT A ja ++ T.v (.int .i64 c.who) :: .sv j 0 c.says.length :: clT B jb = c1 at *
        generalize hc2 : clT A ja ++ T.v (.int .i64 kk) :: .sv j 0 c.says.length :: clT B jb = c2 at *
        simp -dsimp [t0, t1, t5, hlt, hlt', hmm, hll, setAt, hset, hg1, w1, wi, hmu, o1, o2, o3]
        refine callS_ (markMarkS_fn c.says (kk + 1) hcl (by omega) (by omega) _ _ j (by simp [hji, hjj])) ?_
        rintro t m2 n2 ⟨rfl, hn2, rfl⟩
        have g1 := far (show id < n2 by omega)
        simp -dsimp [t0, t1, t5, wi, hmu]
        refine st_out fun s' ht hm' hn' hu' => ?_
        have a0 := ht 0
        have a1 := ht 1
        have a5 := ht 5
        simp -dsimp [t0, wi] at a0 a1 a5 hm' hn' hu'
        clear ht
        have nj : j ∉ ja ∧ j ∉ jb := by
          rw [List.nodup_append] at hnd
          exact ⟨fun h => hnd.2.2 j h j (by simp) rfl, (List.nodup_cons.1 hnd.2.1).1⟩
        refine ⟨i + 1, A ++ [⟨kk, cnts (kk + 1) c.says.length⟩], B, ja ++ [j], jb, kk + 1 + 2 * c.says.length, a0, by rw [a1], a5, by simp [hA], by simp [hja], by simp at hB ⊢; omega, by simp, by omega, ?_, ?_, ?_, hmn, by omega, fun x x1 x2 x3 => ?_, fun x hx => hbl x (by simp [hx]), by simp⟩
        · have e : A ++ [(⟨kk, cnts (kk + 1) c.says.length⟩ : Claim)] ++ B = A ++ ⟨kk, cnts (kk + 1) c.says.length⟩ :: B := by simp
          rw [e, clT_app _ _ _ _ hAj, clT_cons, cnts_length, hc2]
          simp [hm', hij]
        · have e : A ++ [(⟨kk, cnts (kk + 1) c.says.length⟩ : Claim)] ++ B = A ++ ⟨kk, cnts (kk + 1) c.says.length⟩ :: B := by simp
          rw [e]
          refine (Says.app hAj).2 ⟨hsA.1.keep fun x hx => ?_, by simp [hm'], hsA.2.2.keep fun x hx => ?_⟩
          · have y1 : ¬ x = j := fun h => nj.1 (h ▸ hx)
            have y2 : ¬ x = id := fun h => hin (h ▸ by simp [hx])
            simp [hm', y1, y2]
          · have y1 : ¬ x = j := fun h => nj.2 (h ▸ hx)
            have y2 : ¬ x = id := fun h => hin (h ▸ by simp [hx])
            simp [hm', y1, y2]
        · rw [hmk]; simp [mkc]
        · have y1 : ¬ x = j := fun h => x3 (h ▸ hjm)
          simp [hm', y1, x2, hout x x1 x2 x3]
  · rintro s ⟨i, A, B, ja, jb, kk, t0, t1, t5, hA, hja, hB, hjj, hn, hmm, hss, hmk, hmn, hk1, hout, hbl, hend⟩
    have hb := hend rfl
    subst hb
    rw [List.append_nil] at hmm hss
    have e1 : mkc k l = A := by rw [hmk]; simp [mkc]
    have e2 : mkn k l = kk := hmn
    rw [e1, e2]
    simp -dsimp [t1]
    exact ⟨hn, hmm, hss, hout⟩
def Ihc (l : List Claim) (k : Int) (e : Nat) (s : S) : Prop := ∃ (i : Nat) (A B : List Claim) (kk : Int), s.tm 0 = .v (.sl ((mkc k l).map Claim.v)) ∧ s.tm 1 = .v (.int .i64 kk) ∧ s.tm 5 = .v (.int .i64 i) ∧ A.length = i ∧ i + B.length = l.length ∧ mkc k l = A ++ mkc kk B ∧ mkn k l = mkn kk B ∧ 0 ≤ kk ∧ (∀ c ∈ B, c.says.length ≤ 1000000000) ∧ (e = 1 → B = [])
theorem heldClaimS_fn (l : List Claim) (k : Int) (hk0 : 0 ≤ k) (hk : mkn k l ≤ 100000000000000) (hl : ∀ c ∈ l, c.says.length ≤ 1000000000) : FnZ Tryz.prog 79 [.sl ((mkc k l).map Claim.v), .int .i64 k] (.int .i64 (mkn k l)) := by
  refine FnZ_of (rs := [.tmp 4]) false Tryz.func79 rfl rfl rfl rfl (Nat.le_of_ble_eq_true rfl) ?_
  have hge := mkn_ge l k
  simp -dsimp
  refine twp_loopC (Ihc l k 0) (fun s => l.length - natOf (s.tm 5)) (Ihc l k 1) ?_ ?_ ?_
  · exact ⟨0, [], l, k, by simp -dsimp, by simp -dsimp, by simp -dsimp, rfl, by omega, rfl, rfl, hk0, hl, by simp⟩
  · rintro s ⟨i, A, B, kk, t0, t1, t5, hA, hB, hmk, hmn, hk1, hbl, hend⟩
    have hcl : ((mkc k l).map Claim.v).length = l.length := by simp
    cases B with
    | nil =>
      have hlt : ¬ i < l.length := by simp at hB; omega
      simp -dsimp [t0, t5, hlt]
      exact ⟨i, A, [], kk, by simp -dsimp [t0], by simp -dsimp [t1], by simp -dsimp [t5], hA, hB, hmk, hmn, hk1, hbl, fun _ => rfl⟩
    | cons c B =>
      have hlt : i < l.length := by simp at hB; omega
      have hget : ((mkc k l).map Claim.v)[i]? = some (Claim.v ⟨kk, cnts (kk + 1) c.says.length⟩) := by
        rw [hmk, List.getElem?_map, List.getElem?_append_right (by omega), hA, Nat.sub_self]; rfl
      have hcc := hbl c (by simp)
      have hmnl := mkn_ge B (kk + 1 + 2 * c.says.length)
      have hmn2 : mkn k l = mkn (kk + 1 + 2 * c.says.length) B := hmn
      have hmk2 : mkc k l = (A ++ [⟨kk, cnts (kk + 1) c.says.length⟩]) ++ mkc (kk + 1 + 2 * c.says.length) B := by rw [hmk]; simp [mkc]
      rw [hmn2] at hk
      have wi : IntKind.wrap .i64 ((i : Int) + 1) = ((i + 1 : Nat) : Int) := by rw [w64 (by omega) (by omega)]; omega
      have w1 : IntKind.wrap .i64 (kk + 1) = kk + 1 := w64 (by omega) (by omega)
      have hmu : l.length - (i + 1) < l.length - i := by omega
      have hneg : ¬ kk + 1 + 2 * (c.says.length : Int) < 0 := by omega
      have hheld := heldMarkS_fn c.says.length (kk + 1) hcc (by omega) (by omega)
      generalize hrow : (mkc k l).map Claim.v = row at *
      have hlt2 : i < row.length := by omega
      have hget2 : row[i] = Claim.v ⟨kk, cnts (kk + 1) c.says.length⟩ := by rw [List.getElem?_eq_getElem hlt2] at hget; exact Option.some.inj hget
      simp -dsimp [t0, t1, t5, hlt, hlt2, hcl, hget2, w1, wi, hmu]
      refine call_ hheld (by simp -dsimp) ?_
      simp -dsimp [t0, t1, t5, hlt, hlt2, hcl, hget2, w1, wi, hmu, hneg]
      refine st_out fun s' ht hm' hn' hu' => ?_
      have a0 := ht 0
      have a1 := ht 1
      have a5 := ht 5
      simp -dsimp [t0, wi] at a0 a1 a5 hm' hn' hu'
      clear ht
      exact ⟨i + 1, A ++ [⟨kk, cnts (kk + 1) c.says.length⟩], B, kk + 1 + 2 * c.says.length, by rw [a0, hrow], by rw [a1], a5, by simp [hA], by simp at hB ⊢; omega, hmk2, hmn2, by omega, fun x hx => hbl x (by simp [hx]), by simp⟩
  · rintro s ⟨i, A, B, kk, t0, t1, t5, hA, hB, hmk, hmn, hk1, hbl, hend⟩
    have hb := hend rfl
    subst hb
    have e2 : mkn k l = kk := hmn
    rw [e2]
    simp -dsimp [t1]
end TL

/- Places that are read, in memory of the caller's own. -/
set_option linter.unusedSimpArgs false
set_option linter.unusedVariables false
set_option maxRecDepth 100000
set_option maxHeartbeats 4000000
set_option pp.maxSteps 1500
namespace TL
open Go Go.Proofs
attribute [local simp] marksV storyV codeV Claim.v Place.v
def OwnRowC (m : Mem) (lo hi : Nat) (st : T) (l : List Claim) (js : List Nat) : Prop := (∀ j ∈ js, lo ≤ j ∧ j < hi) ∧ js.Nodup ∧ Says m l js ∧ ((st = .nil ∧ l = [] ∧ js = []) ∨ ∃ id, st = .sv id 0 l.length ∧ lo ≤ id ∧ id < hi ∧ id ∉ js ∧ m id = some (.box 74 2 (clT l js)))
def OwnP (p : Place) (m : Mem) (n : Nat) (t : T) (m' : Mem) (n' : Nat) : Prop := n ≤ n' ∧ (∀ j, j < n → m' j = m j) ∧ ∃ st js, t = .tup [.agg [.v (.int .i64 p.people), st], .v (.bool true)] ∧ OwnRowC m' n n' st p.story js
def Irpo (s rest : List UInt8) (D : Int) (m : Mem) (n : Nat) (e : Nat) (x : S) : Prop := ∃ (i : Nat) (l : List Claim) (js : List Nat) (row : T), x.tm 0 = .v (.str s) ∧ x.tm 2 = .ptr n 0 ∧ x.m n = some (.box 34 2 [.v (.int .i64 0), .nil]) ∧ x.tm 4 = .ptr (n + 1) 0 ∧
  x.m (n + 1) = some (.box 34 2 [.v (.int .i64 D), row]) ∧ OwnRowC x.m (n + 1 + 1) x.n row l js ∧
  x.tm 28 = .v (.sl ((cutAt 44 rest).map V.str)) ∧ x.tm 29 = .v (.int .i64 (cutAt 44 rest).length) ∧ x.tm 30 = .v (.int .i64 i) ∧ x.mu = true ∧ n + 1 + 1 ≤ x.n ∧ i ≤ (cutAt 44 rest).length ∧ ((cutAt 44 rest).take i).map (readC D) = l.map some ∧ (∀ j, j < n → x.m j = m j) ∧ (e = 1 → i = (cutAt 44 rest).length)
theorem readPlace_own (s : List UInt8) (hl : s.length ≤ 2000000000) (p : Place) (hr : readP s = some p) (m : Mem) (n : Nat) : FnS Tryz.prog 83 m n [.v (.str s)] (OwnP p m n) := by
  by_cases h3 : s.length < 3
  · rw [readP_short h3] at hr; cases hr
  match s, h3, hl, hr with
  | [], h3, hl, hr => simp at h3
  | [a], h3, hl, hr => simp at h3
  | a :: b :: rest, h3, hl, hr =>
    have h3' : ¬ ((rest.length : Int) + 1 + 1 < 3) := by simp at h3; omega
    have hls : rest.length ≤ 2000000000 := by simp at hl; omega
    have l2 : (2 : Int) ≤ (rest.length : Int) + 1 + 1 := by omega
    have l3 : ((rest.length : Int) + 1 + 1).toNat = rest.length + 1 + 1 := by omega
    have l4 : (0 : Int) < (rest.length : Int) + 1 + 1 := by omega
    have l5 : (1 : Int) < (rest.length : Int) + 1 + 1 := by omega
    by_cases hb : b = 32
    case neg => rw [readP_blank hb] at hr; cases hr
    subst hb
    have hlt := UInt8.toNat_lt a
    have w1 : IntKind.wrap .i64 ((a.toNat : Int) - 48) = (a.toNat : Int) - 48 := w64 (by omega) (by omega)
    have w2 : IntKind.wrap .i64 (a.toNat : Int) = (a.toNat : Int) := w64 (by omega) (by omega)
    have hpt := parts_one (a := a) (rest := rest)
    have hsl : (a :: 32 :: rest).length = rest.length + 1 + 1 := rfl
    generalize hD : (a.toNat : Int) - 48 = D at *
    have e0 : ¬ n = n + 1 := by omega
    have e5 : ¬ n + 1 = n := by omega
    by_cases hd : rest = [46]
    · have he := readP_end (l := []) hpt (.inl ⟨hd, rfl⟩)
      have hT := placeText_fn ⟨D, []⟩ (by simp)
      rw [he] at hr
      subst hd
      clear he hpt
      by_cases hx : placeTx ⟨D, []⟩ = [a, 32, 46]
      case neg => simp [hx] at hr
      have hp : p = ⟨D, []⟩ := by simp [hx] at hr; exact hr.symm
      subst hp
      generalize placeTx ⟨D, []⟩ = tx at *
      refine FnS_of (rs := [.cell 2 34, .tmp 3]) true Tryz.func83 rfl rfl rfl rfl (Nat.le_of_ble_eq_true rfl) ?_
      simp -dsimp [w1, w2, hD, nes, e0, e5]
      refine call_ hT (by simp -dsimp) ?_
      simp -dsimp [hx, nes, e0, e5]
      exact ⟨by omega, fun j j1 => by simp [far j1], _, _, rfl, by simp, List.nodup_nil, trivial, .inl ⟨rfl, rfl, rfl⟩⟩
    have hsp := split_fn rest 44 (by omega)
    refine FnS_of (rs := [.cell 2 34, .tmp 3]) true Tryz.func83 rfl rfl rfl rfl (Nat.le_of_ble_eq_true rfl) ?_
    simp -dsimp [h3', l2, l3, l4, l5, w1, w2, hD, hd, nes, e0, e5]
    refine call_ hsp (by simp -dsimp) ?_
    simp -dsimp [h3', l2, l3, l4, l5, w1, w2, hD, hd, nes, e0, e5]
    refine twp_loopC (Irpo (a :: 32 :: rest) rest D m n 0) (fun x => (cutAt 44 rest).length - natOf (x.tm 30)) (Irpo (a :: 32 :: rest) rest D m n 1) ?_ ?_ ?_
    · exact ⟨0, [], [], .nil, by simp -dsimp, by simp -dsimp, by simp -dsimp [nes, e0, e5], by simp -dsimp, by simp -dsimp [nes, e0, e5], ⟨by simp, List.nodup_nil, trivial, .inl ⟨rfl, rfl, rfl⟩⟩, by simp -dsimp, by simp -dsimp, by simp -dsimp, by simp -dsimp, by simp -dsimp <;> omega, by omega, by simp, fun j j1 => by simp -dsimp [far j1], by simp⟩
    · rintro x ⟨i, l, js, row, t0, t2, m0, t4, m1, hrow, t28, t29, t30, hmu, hn, hi, hrd, hout, hend⟩
      by_cases hlt : i < (cutAt 44 rest).length
      case neg =>
        simp -dsimp [t29, t30, hlt]
        exact ⟨i, l, js, row, by simp -dsimp [t0], by simp -dsimp [t2], by simp -dsimp [m0], by simp -dsimp [t4], by simp -dsimp [m1], hrow, by simp -dsimp [t28], by simp -dsimp [t29], by simp -dsimp [t30], by simp -dsimp [hmu], by simp -dsimp; omega, hi, hrd, fun j j1 => by simp -dsimp [hout j j1], fun _ => by omega⟩
      have hget : ((cutAt 44 rest).map V.str)[i]? = some (.str (cutAt 44 rest)[i]) := by simp [hlt]
      have wi : IntKind.wrap .i64 ((i : Int) + 1) = ((i + 1 : Nat) : Int) := by
        have := cutAt_len 44 rest
        rw [w64 (by omega) (by omega)]; omega
      have hmu1 : (cutAt 44 rest).length - (i + 1) < (cutAt 44 rest).length - i := by omega
      have hpl := cutAt_piece (List.getElem_mem hlt)
      have hmem := List.getElem_mem hlt
      have hnx : ∀ c, readC D (cutAt 44 rest)[i] = some c → _ := fun c => reads_next (c := c) hlt hrd
      have hno := readP_piece hpt hd _ hmem
      have hll := reads_len hrd
      have hcl := cutAt_len 44 rest
      have f0 := far (show n < x.n by omega)
      have f1 := far (show n + 1 < x.n by omega)
      have hsome : ∃ c, readC D (cutAt 44 rest)[i] = some c := by
        cases ho : readC D (cutAt 44 rest)[i] with
        | none => rw [hno ho] at hr; cases hr
        | some c => exact ⟨c, rfl⟩
      refine hsome.elim fun c hc => ?_
      have hrc := fun m n => readClaim_own D (cutAt 44 rest)[i] c (by omega) hc m n
      have hn1 := hnx c hc
      clear hnx hno hsome
      obtain ⟨r1, r2, r3, r4⟩ := hrow
      have r5 := clT_len l js r3.len
      have r6 := clT_cells l js
      have b1 : (l.length + 1) * 32 ≤ 140737488355328 := by omega
      simp -dsimp [t28, t29, t30, t4, m1, hlt, hget, f0, f1]
      refine callS_ (hrc _ _) ?_
      rintro t m2 n2 ⟨hn2, hout2, st, rfl, id2, rfl, i0, i1, him2⟩
      have k0 := hout2 n (by omega)
      have k1 := hout2 (n + 1) (by omega)
      have g0 := far (show n < n2 by omega)
      have g1 := far (show n + 1 < n2 by omega)
      have g2 := far i1
      rcases r4 with ⟨rfl, rfl, rfl⟩ | ⟨id, rfl, j0, j1, j2, him⟩
      · simp -dsimp [t2, t4, t30, m0, m1, k0, k1, hmu, g0, g1, g2, wi, hmu1, nes, e0, e5]
        refine st_out fun s' ht hm' hn' hu' => ?_
        have a0 := ht 0
        have a2 := ht 2
        have a4 := ht 4
        have a28 := ht 28
        have a29 := ht 29
        have a30 := ht 30
        simp -dsimp [t0, t2, t4, t28, t29, wi] at a0 a2 a4 a28 a29 a30 hm' hn' hu'
        clear ht
        refine ⟨i + 1, [c], [id2], .sv (n2 + 1 + 1 + 1) 0 1, a0, a2, by simp [hm', nes, e0, e5, g0, k0, m0], a4, by simp [hm', nes, e5, g1], ⟨fun j hj => by rw [List.mem_singleton.1 hj]; omega, by simp, ⟨by simp [hm', nes, g2, show ¬ id2 = n + 1 by omega, him2], trivial⟩, .inr ⟨n2 + 1 + 1 + 1, by simp, by omega, by omega, by simp; omega, ?_⟩⟩, a28, a29, a30, by rw [hu', hmu], by omega, by omega, by simpa using hn1, fun j j1 => ?_, by simp⟩
        · simp [hm', nes, show ¬ n2 + 1 + 1 = n by omega]
        · simp [hm', far (show j < n2 by omega), show ¬ j = n + 1 by omega, hout2 j (by omega), hout j j1]
      · have g3 := far (show id < n2 by omega)
        have c0 : ¬ id = n := by omega
        have c1 : ¬ id = n + 1 := by omega
        have k2 := hout2 id (by omega)
        simp -dsimp [t2, t4, t30, m0, m1, k0, k1, k2, him, hmu, g0, g1, g2, g3, r5, r6, b1, c0, c1, Ne.symm c0, Ne.symm c1, wi, hmu1, nes, e0, e5]
        refine st_out fun s' ht hm' hn' hu' => ?_
        have a0 := ht 0
        have a2 := ht 2
        have a4 := ht 4
        have a28 := ht 28
        have a29 := ht 29
        have a30 := ht 30
        simp -dsimp [t0, t2, t4, t28, t29, wi] at a0 a2 a4 a28 a29 a30 hm' hn' hu'
        clear ht
        have hjs : ∀ j ∈ js, s'.m j = x.m j := fun j hj => by
          have q1 := r1 j hj
          have q2 : ¬ j = id := fun e => j2 (e ▸ hj)
          simp [hm', far (show j < n2 by omega), show ¬ j = n + 1 by omega, q2, hout2 j (by omega)]
        refine ⟨i + 1, l ++ [c], js ++ [id2], .sv (n2 + 1 + 1 + 1) 0 (l.length + 1), a0, a2, by simp [hm', nes, e0, e5, g0, Ne.symm c0, k0, m0], a4, by simp [hm', nes, e5, g1], ⟨fun j hj => ?_, ?_, ?_, .inr ⟨n2 + 1 + 1 + 1, by simp, by omega, by omega, ?_, ?_⟩⟩, a28, a29, a30, by rw [hu', hmu], by omega, by omega, hn1, fun j j1 => ?_, by simp⟩
        · rcases List.mem_append.1 hj with hj | hj
          · have := r1 j hj; omega
          · rw [List.mem_singleton.1 hj]; omega
        · rw [List.nodup_append]
          refine ⟨r2, by simp, fun y hy z hz => ?_⟩
          rw [List.mem_singleton.1 hz]
          have := r1 y hy
          omega
        · refine (Says.app r3.len).2 ⟨r3.keep hjs, ⟨by simp [hm', nes, g2, show ¬ id2 = n + 1 by omega, show ¬ id2 = id by omega, him2], trivial⟩⟩
        · intro hj
          rcases List.mem_append.1 hj with hj | hj
          · have := r1 _ hj; omega
          · have := List.mem_singleton.1 hj; omega
        · rw [clT_app _ _ _ _ r3.len]
          simp [hm', nes, show ¬ n2 + 1 + 1 = n by omega, List.take_of_length_le (show (clT l js).length ≤ l.length * 2 by omega)]
        · simp [hm', far (show j < n2 by omega), show ¬ j = n + 1 by omega, show ¬ j = id by omega, hout2 j (by omega), hout j j1]
    · rintro x ⟨i, l, js, row, t0, t2, m0, t4, m1, hrow, t28, t29, t30, hmu, hn, hi, hrd, hout, hend⟩
      have hil := hend rfl
      have hll := reads_len hrd
      have hcl := cutAt_len 44 rest
      rw [hil, List.take_length] at hrd
      have he := readP_end hpt (.inr ⟨hd, hrd⟩)
      have hT := placeText_fn ⟨D, l⟩ (by simp only; omega)
      rw [he] at hr
      have hx : placeTx ⟨D, l⟩ = a :: 32 :: rest := by
        by_cases hx : placeTx ⟨D, l⟩ = a :: 32 :: rest
        · exact hx
        · rw [if_neg hx] at hr; cases hr
      rw [if_pos hx] at hr
      cases hr
      clear he hpt
      have f0 := far (show n < x.n by omega)
      have f1 := far (show n + 1 < x.n by omega)
      have hro := hrow
      obtain ⟨r1, r2, r3, r4⟩ := hrow
      rcases r4 with ⟨rfl, rfl, rfl⟩ | ⟨id, rfl, j0, j1, j2, him⟩
      · simp -dsimp [t4, m1, f1]
        refine call_ hT (by simp -dsimp) ?_
        simp -dsimp [t0, t2, t4, m0, m1, hx, e0, e5, nes]
        exact ⟨by omega, fun j jj => by simp [show ¬ j = n by omega, hout j jj], _, _, rfl, by simp, List.nodup_nil, trivial, .inl ⟨rfl, rfl, rfl⟩⟩
      · have hb := bor_claims 1 him r3
        have c0 : ¬ id = n := by omega
        have c1 : ¬ id = n + 1 := by omega
        simp -dsimp [t4, m1, f1]
        refine callM_ hT (by simp -dsimp [hb]) rfl ?_
        simp -dsimp [t0, t2, t4, m0, m1, hx, e0, e5, nes]
        refine ⟨by omega, fun j jj => by simp [show ¬ j = n by omega, hout j jj], _, js, rfl, fun j hj => ?_, r2, r3.keep fun j hj => ?_, .inr ⟨id, rfl, by omega, by omega, j2, by simp [c0, him]⟩⟩
        · have := r1 j hj; omega
        · have := r1 j hj
          simp [show ¬ j = n by omega]
end TL

/- Reading places: the reference. -/
set_option linter.unusedSimpArgs false
set_option linter.unusedVariables false
set_option maxRecDepth 100000
set_option maxHeartbeats 4000000
set_option pp.maxSteps 1500
namespace TL
open Go Go.Proofs
attribute [local simp] marksV storyV codeV Claim.v Place.v
/-! Cutting. -/
def Icut (c : UInt8) (w : List UInt8) (e : Nat) (s : S) : Prop := ∃ (i f id : Nat) (ps : List (List UInt8)), s.tm 0 = .v (.str w) ∧ s.tm 1 = .v (.int .u8 c.toNat) ∧ s.tm 5 = .loc id ∧ id < s.n ∧ s.m id = some (.arr 9 (ps.map V.str)) ∧
  s.tm 6 = .v (.int .i64 f) ∧ s.tm 7 = .v (.int .i64 i) ∧ s.mu = false ∧ f ≤ i ∧ i ≤ w.length ∧ ps.length ≤ i ∧ ps ++ cutGo c ((w.take i).drop f) (w.drop i) = cutAt c w ∧ (e = 1 → i = w.length)
theorem l1Cut_fn (w : List UInt8) (c : UInt8) (hl : w.length ≤ 2000000000) : FnZ Tryz.prog 80 [.str w, .int .u8 c.toNat] (.sl ((cutAt c w).map V.str)) := by
  refine FnZ_of (rs := [.tmp 4]) false Tryz.func80 rfl rfl rfl rfl (Nat.le_of_ble_eq_true rfl) ?_
  simp -dsimp
  refine twp_loopC (Icut c w 0) (fun s => w.length - natOf (s.tm 7)) (Icut c w 1) ?_ ?_ ?_
  · exact ⟨0, 0, 0, [], by simp -dsimp, by simp -dsimp, by simp -dsimp, by simp -dsimp, by simp -dsimp, by simp -dsimp, by simp -dsimp, by simp -dsimp, by omega, by omega, by simp, by simp [cutAt], by simp⟩
  · rintro s ⟨i, f, id, ps, t0, t1, t5, hid, hm, t6, t7, hmu, hf, hi, hps, hcut, hend⟩
    by_cases hlt : i < w.length
    case neg =>
      simp -dsimp [t0, t7, hlt]
      exact ⟨i, f, id, ps, by simp -dsimp [t0], by simp -dsimp [t1], by simp -dsimp [t5], by simp -dsimp [hid], by simp -dsimp [hm], by simp -dsimp [t6], by simp -dsimp [t7], by simp -dsimp [hmu], hf, hi, hps, hcut, fun _ => by omega⟩
    have hget : w[i]? = some w[i] := by simp [hlt]
    have wi : IntKind.wrap .i64 ((i : Int) + 1) = ((i + 1 : Nat) : Int) := by rw [w64 (by omega) (by omega)]; omega
    have hmu1 : w.length - (i + 1) < w.length - i := by omega
    have f1 := far hid
    have b1 : (ps.length + 1) * 16 ≤ 140737488355328 := by omega
    have b2 : (f : Int) ≤ i := by omega
    have b3 : (i : Int) ≤ w.length := by omega
    rw [List.drop_eq_getElem_cons hlt] at hcut
    by_cases hc : w[i] = c
    · have hn : (ps ++ [(w.take i).drop f]) ++ cutGo c ((w.take (i + 1)).drop (i + 1)) (w.drop (i + 1)) = cutAt c w := by
        rw [← hcut]
        have e1 : cutGo c ((w.take i).drop f) (w[i] :: w.drop (i + 1)) = (w.take i).drop f :: cutGo c [] (w.drop (i + 1)) := by
          show (if w[i] = c then _ else _) = _
          rw [if_pos hc]
        have e2 : (w.take (i + 1)).drop (i + 1) = [] := List.drop_eq_nil_of_le (by rw [List.length_take]; omega)
        rw [e1, e2]; simp
      have f0 : ¬ id = s.n + 1 := by omega
      simp -dsimp [t0, t1, t5, t6, t7, hlt, hget, hc, hf, hi, hm, hmu, b1, wi, hmu1, f1, nes]
      refine st_out fun s' ht hm' hn' hu' => ?_
      have a0 := ht 0
      have a1 := ht 1
      have a5 := ht 5
      have a6 := ht 6
      have a7 := ht 7
      simp -dsimp [t0, t1, t5, t7, wi, hc] at a0 a1 a5 a6 a7 hm' hn' hu'
      clear ht
      refine ⟨i + 1, i + 1, _, ps ++ [(w.take i).drop f], a0, a1, a5, by omega, ?_, a6, a7, by rw [hu', hmu], by omega, by omega, by simp; omega, hn, by simp⟩
      simp [hm', nes]
    · have hc' : ¬ (w[i].toNat : Int) = c.toNat := fun h => hc (UInt8.toNat.inj (by omega))
      have hn : ps ++ cutGo c ((w.take (i + 1)).drop f) (w.drop (i + 1)) = cutAt c w := by
        rw [← hcut]
        have e1 : cutGo c ((w.take i).drop f) (w[i] :: w.drop (i + 1)) = cutGo c ((w.take i).drop f ++ [w[i]]) (w.drop (i + 1)) := by
          show (if w[i] = c then _ else _) = _
          rw [if_neg hc]
        have e2 : (w.take (i + 1)).drop f = (w.take i).drop f ++ [w[i]] := by
          rw [List.take_succ_eq_append_getElem hlt, List.drop_append_of_le_length (by rw [List.length_take]; omega)]
        rw [e1, e2]
      simp -dsimp [t0, t1, t5, t6, t7, hlt, hget, hc, hc', wi, hmu1]
      exact ⟨i + 1, f, id, ps, by simp -dsimp [t0], by simp -dsimp [t1], by simp -dsimp [t5], by simp -dsimp [hid], by simp -dsimp [hm], by simp -dsimp [t6], by simp -dsimp, by simp -dsimp [hmu], by omega, by omega, by omega, hn, by simp⟩
  · rintro s ⟨i, f, id, ps, t0, t1, t5, hid, hm, t6, t7, hmu, hf, hi, hps, hcut, hend⟩
    have hil := hend rfl
    subst hil
    have f1 := far hid
    have b1 : (ps.length + 1) * 16 ≤ 140737488355328 := by omega
    have b2 : (f : Int) ≤ w.length := by omega
    rw [List.take_length, List.drop_length] at hcut
    have hcut : ps ++ [w.drop f] = cutAt c w := hcut
    rw [← hcut]
    simp -dsimp [t0, t5, t6, b1, b2, hm, hmu, f1, nes]
end TL

/- Numbers read: the reference. -/
set_option linter.unusedSimpArgs false
set_option linter.unusedVariables false
set_option maxRecDepth 100000
set_option maxHeartbeats 4000000
set_option pp.maxSteps 1500
namespace TL
open Go Go.Proofs
attribute [local simp] marksV storyV codeV Claim.v Place.v
/-! Numbers. -/
def digGo : Nat → List UInt8 → Int
  | acc, [] => acc
  | acc, c :: r => if c.toNat < 48 ∨ 57 < c.toNat then -1 else digGo (10 * acc + (c.toNat - 48)) r
def digS (s : List UInt8) : Int := if (1 ≤ s.length ∧ s.length ≤ 6) ∧ ¬ (1 < s.length ∧ s.head? = some 48) then digGo 0 s else -1
def Idig (w : List UInt8) (e : Nat) (s : S) : Prop := ∃ i acc : Nat, s.tm 0 = .v (.str w) ∧ s.tm 3 = .v (.int .i64 acc) ∧ s.tm 4 = .v (.int .i64 i) ∧ i ≤ w.length ∧ acc < 10 ^ i ∧ digGo acc (w.drop i) = digGo 0 w ∧ (e = 1 → i = w.length)
theorem l1Digits_fn (w : List UInt8) (hl : w.length ≤ 2000000000) : FnZ Tryz.prog 81 [.str w] (.int .i64 (digS w)) := by
  have hin := l1In_z w.length 1 6
  by_cases h1 : 1 ≤ w.length ∧ w.length ≤ 6
  case neg =>
    have e : digS w = -1 := by unfold digS; rw [if_neg fun h => h1 h.1]
    have e2 : (decide ((1 : Int) ≤ w.length) && decide ((w.length : Int) ≤ 6)) = false := by
      rw [Bool.and_eq_false_iff]; simp only [decide_eq_false_iff_not]; omega
    rw [e2] at hin
    rw [e]
    refine FnZ_of (rs := [.tmp 2]) false Tryz.func81 rfl rfl rfl rfl (Nat.le_of_ble_eq_true rfl) ?_
    simp -dsimp
    refine call_ hin (by simp -dsimp) ?_
    simp -dsimp
  have e2 : (decide ((1 : Int) ≤ w.length) && decide ((w.length : Int) ≤ 6)) = true := by
    rw [Bool.and_eq_true, decide_eq_true_eq, decide_eq_true_eq]; omega
  rw [e2] at hin
  by_cases h2 : 1 < w.length ∧ w.head? = some 48
  · have e : digS w = -1 := by unfold digS; rw [if_neg fun h => h.2 h2]
    match w, h2 with
    | c :: r, h2 =>
      have hc : c = 48 := by simpa using h2.2
      subst hc
      have l1 : (1 : Int) < (r.length : Int) + 1 := by have := h2.1; simp only [List.length_cons] at this; omega
      have l2 : 0 < r.length := by omega
      rw [e]
      refine FnZ_of (rs := [.tmp 2]) false Tryz.func81 rfl rfl rfl rfl (Nat.le_of_ble_eq_true rfl) ?_
      simp -dsimp
      refine call_ hin (by simp -dsimp) ?_
      simp -dsimp [l1, l2]
  have e : digS w = digGo 0 w := by unfold digS; rw [if_pos ⟨h1, h2⟩]
  rw [e]
  have h6 : w.length ≤ 6 := h1.2
  refine FnZ_of (rs := [.tmp 2]) false Tryz.func81 rfl rfl rfl rfl (Nat.le_of_ble_eq_true rfl) ?_
  simp -dsimp
  refine call_ hin (by simp -dsimp) ?_
  by_cases hl1 : 1 < w.length
  case' pos =>
    have l1 : (1 : Int) < w.length := by omega
    have l0 : 0 < w.length := by omega
    have hc : ¬ w[0] = 48 := fun h => h2 ⟨hl1, by rw [List.head?_eq_getElem?, List.getElem?_eq_getElem l0, h]⟩
    have hc2 : ¬ (w[0].toNat : Int) = 48 := fun h => hc (UInt8.toNat.inj (by show w[0].toNat = 48; omega))
    simp -dsimp [l1, l0, hc2, hl1]
  case' neg =>
    have l1 : ¬ (1 : Int) < w.length := by omega
    simp -dsimp [l1, hl1]
  all_goals
      clear l1 h1 h2 hin hl hl1 e e2
      refine twp_loopC (Idig w 0) (fun s => w.length - natOf (s.tm 4)) (Idig w 1) ?_ ?_ ?_
      · exact ⟨0, 0, by simp -dsimp, by simp -dsimp, by simp -dsimp, by omega, by simp, by simp, by simp⟩
      · rintro s ⟨i, acc, t0, t3, t4, hi, hac, hd, hend⟩
        by_cases hlt : i < w.length
        case neg =>
          simp -dsimp [t0, t4, hlt]
          exact ⟨i, acc, by simp -dsimp [t0], by simp -dsimp [t3], by simp -dsimp [t4], hi, hac, hd, fun _ => by omega⟩
        have hget : w[i]? = some w[i] := by simp [hlt]
        have wi : IntKind.wrap .i64 ((i : Int) + 1) = ((i + 1 : Nat) : Int) := by rw [w64 (by omega) (by omega)]; omega
        have hmu1 : w.length - (i + 1) < w.length - i := by omega
        have hp : 10 ^ i ≤ 10 ^ 6 := Nat.pow_le_pow_right (by omega) (by omega)
        have hp6 : (10 : Nat) ^ 6 = 1000000 := rfl
        have hps : 10 ^ (i + 1) = 10 * 10 ^ i := by rw [Nat.pow_succ]; omega
        have hb := UInt8.toNat_lt w[i]
        rw [List.drop_eq_getElem_cons hlt] at hd
        have hd : (if w[i].toNat < 48 ∨ 57 < w[i].toNat then -1 else digGo (10 * acc + (w[i].toNat - 48)) (w.drop (i + 1))) = digGo 0 w := hd
        by_cases hlo : w[i].toNat < 48
        · have hlo' : (w[i].toNat : Int) < 48 := by omega
          rw [if_pos (.inl hlo)] at hd
          rw [← hd]
          simp -dsimp [t0, t4, hlt, hget, hlo, hlo']
        by_cases hhi : 57 < w[i].toNat
        · have hlo' : ¬ (w[i].toNat : Int) < 48 := by omega
          have hhi' : (57 : Int) < (w[i].toNat : Int) := by omega
          rw [if_pos (.inr hhi)] at hd
          rw [← hd]
          simp -dsimp [t0, t4, hlt, hget, hlo, hlo', hhi, hhi']
        · have hlo' : ¬ (w[i].toNat : Int) < 48 := by omega
          have hhi' : ¬ (57 : Int) < (w[i].toNat : Int) := by omega
          rw [if_neg (by omega)] at hd
          have w1 : IntKind.wrap .i64 (10 * (acc : Int)) = 10 * (acc : Int) := w64 (by omega) (by omega)
          have w2 : IntKind.wrap .u8 ((w[i].toNat : Int) - 48) = (w[i].toNat : Int) - 48 := by rw [IntKind.wrap_u8]; omega
          have w3 : IntKind.wrap .i64 ((w[i].toNat : Int) - 48) = (w[i].toNat : Int) - 48 := w64 (by omega) (by omega)
          have w4 : IntKind.wrap .i64 (10 * (acc : Int) + ((w[i].toNat : Int) - 48)) = ((10 * acc + (w[i].toNat - 48) : Nat) : Int) := by rw [w64 (by omega) (by omega)]; omega
          simp -dsimp [t0, t3, t4, hlt, hget, hlo, hlo', hhi, hhi', w1, w2, w3, w4, wi, hmu1]
          exact ⟨i + 1, 10 * acc + (w[i].toNat - 48), by simp -dsimp [t0], by simp -dsimp, by simp -dsimp, by omega, by omega, hd, by simp⟩
      · rintro s ⟨i, acc, t0, t3, t4, hi, hac, hd, hend⟩
        have hil := hend rfl
        rw [hil, List.drop_length] at hd
        rw [← hd]
        simp -dsimp [t3, digGo]
end TL

/- Places read: the reference. -/
set_option linter.unusedSimpArgs false
set_option linter.unusedVariables false
set_option maxRecDepth 100000
set_option maxHeartbeats 4000000
set_option pp.maxSteps 1500
namespace TL
open Go Go.Proofs
attribute [local simp] marksV storyV codeV Claim.v Place.v
/-! Places. -/
theorem cut32_text {p : Place} (h : placeOk p = true) : cutAt 32 (placeTx p) = [[UInt8.ofNat (48 + p.people.toNat)], restTx p] := by
  obtain ⟨h1, h2, _, _⟩ := placeOk_all h
  rw [placeTx_shape h]
  have hd : ∀ y ∈ [UInt8.ofNat (48 + p.people.toNat)], y ≠ 32 := fun y hy => by
    rw [List.mem_singleton.1 hy]
    rcases (by omega : p.people = 1 ∨ p.people = 2 ∨ p.people = 3 ∨ p.people = 4) with e | e | e | e <;> rw [e] <;> decide
  have := cutAt_app (r := restTx p) hd
  rw [cutAt_none fun y hy => (restTx_plain h y hy).1] at this
  exact this
theorem digS_digit {n : Int} (h0 : 1 ≤ n) (h4 : n ≤ 4) : digS [UInt8.ofNat (48 + n.toNat)] = n := by
  rcases (by omega : n = 1 ∨ n = 2 ∨ n = 3 ∨ n = 4) with rfl | rfl | rfl | rfl <;> rfl
theorem parts_two {s x rest : List UInt8} (h : cutAt 32 s = [x, rest]) : parts s (digS x) rest := ⟨(fun e => by rw [e] at h; cases h), fun p hp hs => by
  obtain ⟨h1, h2, _, _⟩ := placeOk_all hp
  rw [← hs, cut32_text hp] at h
  injection h with h3 h4
  injection h4 with h5 _
  rw [← h3, digS_digit h1 h2]
  exact ⟨rfl, h5.symm⟩⟩
theorem readP_parts {s : List UInt8} (h : (cutAt 32 s).length ≠ 2) : readP s = none := readP_none fun p hp hs => by
  rw [← hs, cut32_text hp] at h; exact h rfl
theorem reads_ok {D : Int} {ps : List (List UInt8)} {l : List Claim} (h : ps.map (readC D) = l.map some) : ∀ c ∈ l, claimOk D c = true := fun c hc => by
  have : some c ∈ ps.map (readC D) := by rw [h]; exact List.mem_map_of_mem hc
  obtain ⟨x, _, hx⟩ := List.mem_map.1 this
  exact (readC_is hx).1
theorem claimOk_fine {D : Int} {c : Claim} (h : claimOk D c = true) : c.fine := by
  obtain ⟨_, _, _, _, h5, h6⟩ := claimOk_all h
  exact ⟨termOk_fits h5, by omega⟩
def Isrp (s x rest : List UInt8) (D : Int) (e : Nat) (y : S) : Prop := ∃ (i : Nat) (l : List Claim) (row : T), y.tm 0 = .v (.str s) ∧ y.tm 2 = .ptr 0 0 ∧ y.m 0 = some (.box 34 2 [.v (.int .i64 0), .nil]) ∧ y.tm 5 = .ptr 1 0 ∧
  y.m 1 = some (.box 34 2 [.v (.int .i64 D), row]) ∧ (row = .nil ∧ l = [] ∨ ∃ id, row = .loc id ∧ 1 < id ∧ id < y.n ∧ y.m id = some (.arr 74 (l.map Claim.v))) ∧
  y.tm 4 = .v (.sl [.str x, .str rest]) ∧ y.tm 6 = .v (.sl ((cutAt 44 rest).map V.str)) ∧ y.tm 7 = .v (.int .i64 i) ∧ y.mu = false ∧ 1 < y.n ∧ i ≤ (cutAt 44 rest).length ∧ ((cutAt 44 rest).take i).map (readC D) = l.map some ∧ (rest = [46] → l = []) ∧ (e = 1 → rest = [46] ∨ i = (cutAt 44 rest).length)
theorem readPlaceS_fn (s : List UInt8) (hl : s.length ≤ 2000000000) : FnZ Tryz.prog 54 [.str s] (optP (readP s)) := by
  have hcut := l1Cut_fn s 32 hl
  have e32 : (((32 : UInt8).toNat : Nat) : Int) = 32 := rfl
  have e44 : (((44 : UInt8).toNat : Nat) : Int) = 44 := rfl
  rw [e32] at hcut
  by_cases h2 : (cutAt 32 s).length = 2
  case neg =>
    rw [readP_parts h2]
    have h2' : ¬ ((cutAt 32 s).length : Int) = 2 := by omega
    refine FnZ_of (rs := [.cell 2 34, .tmp 3]) false Tryz.func54 rfl rfl rfl rfl (Nat.le_of_ble_eq_true rfl) ?_
    simp -dsimp
    refine call_ hcut (by simp -dsimp) ?_
    simp -dsimp [h2, h2', optP]
  have h3 : ∃ x rest, cutAt 32 s = [x, rest] := by
    generalize cutAt 32 s = ps at h2
    match ps, h2 with
    | [x, r], _ => exact ⟨x, r, rfl⟩
  refine h3.elim fun x h4 => h4.elim fun rest h5 => ?_
  clear h3 h4 h2
  have hxl : x.length ≤ s.length := cutAt_piece (c := 32) (by rw [h5]; simp)
  have hrl : rest.length ≤ s.length := cutAt_piece (c := 32) (by rw [h5]; simp)
  have hpt := parts_two h5
  rw [h5] at hcut
  clear h5
  have hdg := l1Digits_fn x (by omega)
  have hct2 := l1Cut_fn rest 44 (by omega)
  rw [e44] at hct2
  generalize digS x = D at *
  refine FnZ_of (rs := [.cell 2 34, .tmp 3]) false Tryz.func54 rfl rfl rfl rfl (Nat.le_of_ble_eq_true rfl) ?_
  simp -dsimp
  refine call_ hcut (by simp -dsimp) ?_
  simp -dsimp
  refine call_ hdg (by simp -dsimp) ?_
  simp -dsimp
  refine call_ hct2 (by simp -dsimp) ?_
  simp -dsimp
  refine twp_loopC (Isrp s x rest D 0) (fun y => (cutAt 44 rest).length - natOf (y.tm 7)) (Isrp s x rest D 1) ?_ ?_ ?_
  · exact ⟨0, [], .nil, by simp -dsimp, by simp -dsimp, by simp -dsimp, by simp -dsimp, by simp -dsimp, .inl ⟨rfl, rfl⟩, by simp -dsimp, by simp -dsimp, by simp -dsimp, by simp -dsimp, by simp -dsimp, by omega, by simp, by simp, by simp⟩
  · rintro y ⟨i, l, row, t0, t2, m0, t5, m1, hrow, t4, t6, t7, hmu, hn, hi, hrd, hdot, hend⟩
    by_cases hlt : i < (cutAt 44 rest).length
    case neg =>
      simp -dsimp [t4, t6, t7, hlt]
      exact ⟨i, l, row, by simp -dsimp [t0], by simp -dsimp [t2], by simp -dsimp [m0], by simp -dsimp [t5], by simp -dsimp [m1], by simpa -dsimp using hrow, by simp -dsimp [t4], by simp -dsimp [t6], by simp -dsimp [t7], by simp -dsimp [hmu], by simp -dsimp [hn], hi, hrd, hdot, fun _ => .inr (by omega)⟩
    by_cases hd : rest = [46]
    · have hlt2 : i < (cutAt 44 [46]).length := by rw [← hd]; exact hlt
      simp -dsimp [t4, t6, t7, hlt, hlt2, hd]
      exact ⟨i, l, row, by simp -dsimp [t0], by simp -dsimp [t2], by simp -dsimp [m0], by simp -dsimp [t5], by simp -dsimp [m1], by simpa -dsimp using hrow, by simp -dsimp [t4, hd], by simp -dsimp [t6, hd], by simp -dsimp [t7], by simp -dsimp [hmu], by simp -dsimp [hn], by rw [← hd]; exact hi, by rw [← hd]; exact hrd, fun _ => hdot hd, fun _ => .inl rfl⟩
    have hget : ((cutAt 44 rest).map V.str)[i]? = some (.str (cutAt 44 rest)[i]) := by simp [hlt]
    have hcl := cutAt_len 44 rest
    have wi : IntKind.wrap .i64 ((i : Int) + 1) = ((i + 1 : Nat) : Int) := by rw [w64 (by omega) (by omega)]; omega
    have hmu1 : (cutAt 44 rest).length - (i + 1) < (cutAt 44 rest).length - i := by omega
    have hmem := List.getElem_mem hlt
    have hpl := cutAt_piece hmem
    have hrc := readClaimS_fn D (cutAt 44 rest)[i] (by omega)
    have hnx : ∀ c, readC D (cutAt 44 rest)[i] = some c → _ := fun c => reads_next (c := c) hlt hrd
    have hno := readP_piece hpt hd _ hmem
    have hll := reads_len hrd
    have f0 := far (show 0 < y.n by omega)
    have f1 := far hn
    generalize readC D (cutAt 44 rest)[i] = o at *
    cases o with
    | none =>
      rw [hno rfl]
      simp -dsimp [t4, t6, t7, hlt, hget, hd]
      refine twp_draw [0, 1, 2, 3, 4, 5, 1006, 7, 8, 9, 10, 11, 12] [1] (List.replicate 13 [0]) (List.replicate 13 [0]) (by kernel_rfl) (by kernel_rfl) (by kernel_rfl) (by kernel_rfl) ?_
      simp -dsimp [t4, t5, t6, t7, hlt, hget, m1, f0, f1, nes]
      refine pure_ hrc (by simp -dsimp) ?_
      simp -dsimp [optC, optP, t2, m0, f0, f1, nes]
    | some c =>
      have hn1 := hnx c rfl
      clear hnx hno
      rcases hrow with ⟨rfl, rfl⟩ | ⟨id, rfl, hid1, hid, hm⟩
      · simp -dsimp [t4, t6, t7, hlt, hget, hd]
        refine twp_draw [0, 1, 2, 3, 4, 5, 1006, 7, 8, 9, 10, 11, 12] [1] (List.replicate 13 [0]) (List.replicate 13 [0]) (by kernel_rfl) (by kernel_rfl) (by kernel_rfl) (by kernel_rfl) ?_
        simp -dsimp [t4, t5, t6, t7, hlt, hget, m1, f0, f1, nes]
        refine pure_ hrc (by simp -dsimp) ?_
        simp -dsimp [optC, optP, t2, t5, t7, m0, m1, hmu, f0, f1, wi, hmu1, nes]
        refine st_out fun s' ht hm' hn' hu' => ?_
        have a0 := ht 0
        have a2 := ht 2
        have a4 := ht 4
        have a5 := ht 5
        have a6 := ht 6
        have a7 := ht 7
        simp -dsimp [t0, t2, t4, t5, t6, wi] at a0 a2 a4 a5 a6 a7 hm' hn' hu'
        clear ht
        refine ⟨i + 1, _, .loc (y.n + 1 + 1 + 1), a0, a2, by simp [hm', f0, nes, m0], a5, by simp [hm', f1, nes, m1], .inr ⟨_, rfl, by omega, by omega, ?_⟩, a4, a6, a7, by rw [hu', hmu], by omega, by omega, hn1, fun h => absurd h hd, by simp⟩
        simp [hm', nes]
      · have f2 := far hid
        have g0 : ¬ id = 0 := by omega
        have g1 : ¬ id = 1 := by omega
        have b1 : (l.length + 1) * 32 ≤ 140737488355328 := by omega
        simp -dsimp [t4, t6, t7, hlt, hget, hd]
        refine twp_draw [0, 1, 2, 3, 4, 5, 1006, 7, 8, 9, 10, 11, 12] [1] (List.replicate 13 [0]) (List.replicate 13 [0]) (by kernel_rfl) (by kernel_rfl) (by kernel_rfl) (by kernel_rfl) ?_
        simp -dsimp [t4, t5, t6, t7, hlt, hget, m1, f0, f1, nes]
        refine pure_ hrc (by simp -dsimp) ?_
        simp -dsimp [optC, optP, t2, t5, t7, m0, m1, hm, hmu, f0, f1, f2, b1, wi, hmu1, nes, g0, g1, Ne.symm g0, Ne.symm g1]
        refine st_out fun s' ht hm' hn' hu' => ?_
        have a0 := ht 0
        have a2 := ht 2
        have a4 := ht 4
        have a5 := ht 5
        have a6 := ht 6
        have a7 := ht 7
        simp -dsimp [t0, t2, t4, t5, t6, wi] at a0 a2 a4 a5 a6 a7 hm' hn' hu'
        clear ht
        refine ⟨i + 1, _, .loc (y.n + 1 + 1 + 1), a0, a2, by simp [hm', f0, nes, Ne.symm g0, m0], a5, by simp [hm', f1, nes, Ne.symm g1, m1], .inr ⟨_, rfl, by omega, by omega, ?_⟩, a4, a6, a7, by rw [hu', hmu], by omega, by omega, hn1, fun h => absurd h hd, by simp⟩
        simp [hm', nes]
  · rintro y ⟨i, l, row, t0, t2, m0, t5, m1, hrow, t4, t6, t7, hmu, hn, hi, hrd, hdot, hend⟩
    have hll := reads_len hrd
    have hcl := cutAt_len 44 rest
    have hcase : rest = [46] ∧ l = [] ∨ rest ≠ [46] ∧ (cutAt 44 rest).map (readC D) = l.map some := by
      by_cases hd : rest = [46]
      · exact .inl ⟨hd, hdot hd⟩
      · have := (hend rfl).resolve_left hd
        rw [this, List.take_length] at hrd
        exact .inr ⟨hd, hrd⟩
    have hfine : (⟨D, l⟩ : Place).fine := ⟨by simp only; omega, fun c hc => claimOk_fine (reads_ok hrd c hc)⟩
    have he := readP_end hpt hcase
    have hT := placeTextS_fn ⟨D, l⟩ hfine
    rw [he]
    clear he hpt
    generalize placeTx ⟨D, l⟩ = tx at *
    have f0 := far (show 0 < y.n by omega)
    have f1 := far hn
    rcases hrow with ⟨rfl, rfl⟩ | ⟨id, rfl, hid1, hid, hm⟩
    · by_cases hx : tx = s
      · simp -dsimp [t5, m1, f1]
        refine call_ hT (by simp -dsimp) ?_
        simp -dsimp [t0, t2, t5, m0, m1, hx, optP]
      · simp -dsimp [t5, m1, f1]
        refine call_ hT (by simp -dsimp) ?_
        simp -dsimp [t0, t2, t5, m0, m1, hx, optP]
    · have f2 := far hid
      have g0 : ¬ id = 0 := by omega
      have g1 : ¬ id = 1 := by omega
      by_cases hx : tx = s
      · simp -dsimp [t5, m1, f1]
        refine call_ hT (by simp -dsimp [hm]) ?_
        simp -dsimp [t0, t2, t5, m0, m1, hm, hx, optP, g0, g1, f0, f1, f2]
      · simp -dsimp [t5, m1, f1]
        refine call_ hT (by simp -dsimp [hm]) ?_
        simp -dsimp [t0, t2, t5, m0, m1, hm, hx, optP, g0, g1, f0, f1, f2]
end TL

/- The exact law of reading places. -/
set_option linter.unusedSimpArgs false
set_option linter.unusedVariables false
set_option maxRecDepth 100000
set_option maxHeartbeats 4000000
set_option pp.maxSteps 1500
namespace TL
open Go Go.Proofs
attribute [local simp] marksV storyV codeV Claim.v Place.v
theorem OwnRowC.cell {m : Mem} {lo hi : Nat} {st : T} {l : List Claim} {js : List Nat} (h : OwnRowC m lo hi st l js) : st.cell = true := by
  rcases h.2.2.2 with ⟨rfl, _⟩ | ⟨id, rfl, _⟩ <;> rfl
theorem OwnRowC.cells {m : Mem} {lo hi : Nat} {st : T} {l : List Claim} {js : List Nat} (h : OwnRowC m lo hi st l js) : st.cells = [st] := by
  rcases h.2.2.2 with ⟨rfl, _⟩ | ⟨id, rfl, _⟩ <;> rfl
theorem OwnRowC.keep {m m' : Mem} {lo hi : Nat} {st : T} {l : List Claim} {js : List Nat} (h : OwnRowC m lo hi st l js) (hk : ∀ j, lo ≤ j → j < hi → m' j = m j) : OwnRowC m' lo hi st l js := by
  obtain ⟨h1, h2, h3, h4⟩ := h
  refine ⟨h1, h2, h3.keep fun j hj => hk j (h1 j hj).1 (h1 j hj).2, ?_⟩
  rcases h4 with h4 | ⟨id, e, i0, i1, i2, i3⟩
  · exact .inl h4
  · exact .inr ⟨id, e, i0, i1, i2, by rw [hk id i0 i1, i3]⟩
theorem OwnRowC.bor {m : Mem} {lo hi : Nat} {st : T} {l : List Claim} {js : List Nat} (h : OwnRowC m lo hi st l js) (d : Nat) : TL.bor true m (d + 2) st = some (.sl (l.map Claim.v)) := by
  obtain ⟨h1, h2, h3, h4⟩ := h
  rcases h4 with ⟨rfl, rfl, rfl⟩ | ⟨id, rfl, i0, i1, i2, i3⟩
  · rfl
  · exact bor_claims d i3 h3
theorem markClaimS_nil (m : Mem) (n : Nat) (k : Int) : FnS Tryz.prog 78 m n [.nil, .v (.int .i64 k)] (fun t m' n' => t = .v (.int .i64 k) ∧ n ≤ n' ∧ m' = m) := by
  refine FnS_of (rs := [.tmp 4]) false Tryz.func78 rfl rfl rfl rfl (Nat.le_of_ble_eq_true rfl) ?_
  simp -dsimp
  refine twp_loopC (fun s => s.tm 0 = .nil ∧ s.tm 1 = .v (.int .i64 k) ∧ s.tm 5 = .v (.int .i64 0) ∧ s.m = m ∧ n ≤ s.n) (fun s => 0) (fun s => s.tm 1 = .v (.int .i64 k) ∧ s.m = m ∧ n ≤ s.n) ?_ ?_ ?_
  · simp -dsimp
  · rintro s ⟨t0, t1, t5, hm, hn⟩
    simp -dsimp [t0, t1, t5, hm, hn]
  · rintro s ⟨t1, hm, hn⟩
    simp -dsimp [t1, hm, hn]
theorem markPlace_own (p : Place) (k : Int) (hk0 : 0 ≤ k) (hk : mkn k p.story ≤ 100000000000000) (hl : ∀ c ∈ p.story, c.says.length ≤ 1000000000) (m : Mem) (lo hi n : Nat) (hlo : hi ≤ n) (st : T) (js : List Nat) (h : OwnRowC m lo hi st p.story js) :
    FnS Tryz.prog 45 m n [.agg [.v (.int .i64 p.people), st], .v (.int .i64 k)] (fun t m' n' => t = .v (.int .i64 (mkn k p.story)) ∧ n ≤ n' ∧ OwnRowC m' lo hi st (mkc k p.story) js ∧ ∀ j, j < n → j < lo ∨ hi ≤ j → m' j = m j) := by
  have hc := h.cell
  have hcs := h.cells
  refine FnS_of (rs := [.tmp 4]) false Tryz.func45 rfl rfl rfl rfl (Nat.le_of_ble_eq_true rfl) ?_
  obtain ⟨h1, h2, h3, h4⟩ := h
  rcases h4 with ⟨rfl, e, rfl⟩ | ⟨id, rfl, i0, i1, i2, i3⟩
  · simp -dsimp [nes]
    refine callS_ (markClaimS_nil _ _ k) ?_
    rintro t m2 n2 ⟨rfl, hn2, rfl⟩
    simp -dsimp [e, mkn, mkc]
    exact ⟨by omega, ⟨by simp, List.nodup_nil, trivial, .inl ⟨rfl, rfl, rfl⟩⟩, fun j j1 _ => by simp [show ¬ j = n by omega]⟩
  · simp -dsimp [nes, hc, hcs]
    refine callS_ (markClaimS_fn p.story js k hk0 hk _ _ id (by omega) (fun j hj => by have := (h1 j hj).2; omega) h2 i2 (by simp [show ¬ id = n by omega, i3]) (h3.keep fun j hj => by have := (h1 j hj).2; simp [show ¬ j = n by omega]) hl) ?_
    rintro t m2 n2 ⟨rfl, hn2, e1, e2, e3⟩
    simp -dsimp
    refine ⟨by omega, ⟨h1, h2, e2, .inr ⟨id, by simp, i0, i1, i2, e1⟩⟩, fun j j1 j2 => ?_⟩
    have q1 : j ∉ js := fun hj => by have := h1 j hj; omega
    rw [e3 j (by omega) (by omega) q1]; simp [show ¬ j = n by omega]
theorem heldPlace_fn (q : Int) (l : List Claim) (k : Int) (hk0 : 0 ≤ k) (hk : mkn k l ≤ 100000000000000) (hl : ∀ c ∈ l, c.says.length ≤ 1000000000) : FnZ Tryz.prog 47 [(⟨q, mkc k l⟩ : Place).v, .int .i64 k] (.int .i64 (mkn k l)) := by
  have h := heldClaimS_fn l k hk0 hk hl
  have hge := mkn_ge l k
  have h0 : ¬ mkn k l < 0 := by omega
  refine FnZ_of (rs := [.tmp 4]) false Tryz.func47 rfl rfl rfl rfl (Nat.le_of_ble_eq_true rfl) ?_
  simp -dsimp
  refine call_ h (by simp -dsimp) ?_
  simp -dsimp [h0]
theorem markPlace_no (q k : Int) : FnZ Tryz.prog 45 [(⟨q, []⟩ : Place).v, .int .i64 k] (.int .i64 k) := by
  have h : FnZ Tryz.prog 78 [.sl [], .int .i64 k] (.int .i64 k) := by
    refine FnZ_of (rs := [.tmp 4]) false Tryz.func78 rfl rfl rfl rfl (Nat.le_of_ble_eq_true rfl) ?_
    simp -dsimp
    refine twp_loopC (fun s => s.tm 0 = .v (.sl []) ∧ s.tm 1 = .v (.int .i64 k) ∧ s.tm 5 = .v (.int .i64 0)) (fun s => 0) (fun s => s.tm 1 = .v (.int .i64 k)) ?_ ?_ ?_
    · simp -dsimp
    · rintro s ⟨t0, t1, t5⟩
      simp -dsimp [t0, t1, t5]
    · rintro s t1
      simp -dsimp [t1]
  refine FnZ_of (rs := [.tmp 4]) false Tryz.func45 rfl rfl rfl rfl (Nat.le_of_ble_eq_true rfl) ?_
  simp -dsimp
  refine call_ h (by simp -dsimp) ?_
  simp -dsimp
theorem mkn_le (M : Nat) : ∀ (l : List Claim) (k : Int), (∀ c ∈ l, c.says.length ≤ M) → mkn k l ≤ k + l.length * (1 + 2 * M)
  | [], k, _ => by simp [mkn]
  | c :: l, k, h => by
    have h1 := h c (by simp)
    have h2 := mkn_le M l (k + 1 + 2 * c.says.length) (fun x hx => h x (by simp [hx]))
    simp only [mkn, List.length_cons]
    have e : ((l.length + 1 : Nat) : Int) * (1 + 2 * (M : Int)) = (l.length : Int) * (1 + 2 * M) + (1 + 2 * M) := by rw [Int.natCast_add, Int.add_mul]; simp
    rw [e]; omega
end TL

/- Desks. -/
set_option linter.unusedSimpArgs false
set_option linter.unusedVariables false
set_option maxRecDepth 100000
set_option maxHeartbeats 4000000
set_option pp.maxSteps 1500
namespace TL
open Go Go.Proofs
attribute [local simp] marksV storyV codeV Claim.v Place.v Desk.v
def Il15 (p : Place) (e : Nat) (s : S) : Prop := ∃ (i : Nat) (st : T) (z : List T), s.tm 1 = .ptr 0 0 ∧ s.tm 2 = .ptr 1 0 ∧ s.tm 3 = .ptr 2 0 ∧ s.tm 4 = .v (.int .i64 i) ∧ s.mu = false ∧ i ≤ p.story.length ∧ 3 ≤ s.n ∧
  s.m 0 = some (.box 34 2 [.v (.int .i64 p.people), .v (storyV p.story)]) ∧ s.m 1 = some (.box 34 2 z) ∧ z.length = 2 ∧ s.m 2 = some (.box 34 2 [.v (.int .i64 p.people), st]) ∧ IsRow s.m 3 s.n 74 st ((p.story.take i).map Claim.v) ∧ (e = 1 → i = p.story.length)
theorem l15Place_fn (p : Place) (hp : p.small) : FnZ Tryz.prog 59 [p.v] p.v := by
  have hl := hp.1
  refine FnZ_of (rs := [.cell 2 34]) false Tryz.func59 rfl rfl rfl rfl (Nat.le_of_ble_eq_true rfl) ?_
  simp -dsimp
  refine twp_loopC (Il15 p 0) (fun s => p.story.length - natOf (s.tm 4)) (Il15 p 1) ?_ ?_ ?_
  · exact ⟨0, .nil, [.v (.int .i64 0), .nil], by simp -dsimp, by simp -dsimp, by simp -dsimp, by simp -dsimp, by simp -dsimp, by omega, by simp -dsimp, by simp -dsimp, by simp -dsimp, rfl, by simp -dsimp, .inl ⟨rfl, by simp⟩, by simp⟩
  · rintro s ⟨i, st, z, t1, t2, t3, t4, hmu, hi, hn, m0, m1, hz, m2, hst, hend⟩
    by_cases hlt : i < p.story.length
    case neg =>
      simp -dsimp [t1, t4, m0, hlt]
      exact ⟨i, st, z, by simp -dsimp [t1], by simp -dsimp [t2], by simp -dsimp [t3], by simp -dsimp [t4], by simp -dsimp [hmu], hi, by simp -dsimp; omega, by simp -dsimp [m0], by simp -dsimp [m1], hz, by simp -dsimp [m2], hst, fun _ => by omega⟩
    have hget : (p.story.map Claim.v)[i]? = some (p.story[i].v) := by simp [hlt]
    have wi : IntKind.wrap .i64 ((i : Int) + 1) = ((i + 1 : Nat) : Int) := by rw [w64 (by omega) (by omega)]; omega
    have hmu1 : p.story.length - (i + 1) < p.story.length - i := by omega
    have f0 := far (show 0 < s.n by omega)
    have f1 := far (show 1 < s.n by omega)
    have f2 := far (show 2 < s.n by omega)
    have hsm := hp.2 p.story[i] (List.getElem_mem _)
    unfold Claim.small at hsm
    have b0 : p.story[i].says.length * 16 ≤ 140737488355328 := by omega
    have b1 : (min i p.story.length + 1) * 32 ≤ 140737488355328 := by omega
    have htk : (p.story.take (i + 1)).map Claim.v = (p.story.take i).map Claim.v ++ [p.story[i].v] := by rw [List.take_succ_eq_append_getElem hlt, List.map_append]; rfl
    simp -dsimp [t1, t4, m0, hlt]
    refine twp_draw [0, 1, 2, 3, 4, 5, 6, 7, 9, 10, 11, 12, 13, 14, 8, 15, 16, 17, 18, 19, 20] [0, 2] (List.replicate 21 [0, 1]) (List.replicate 20 [0, 1] ++ [[0]]) (by kernel_rfl) (by kernel_rfl) (by kernel_rfl) (by kernel_rfl) ?_
    rcases hst with ⟨rfl, hs0⟩ | ⟨id, rfl, hi0, hi1, him⟩
    · simp -dsimp [t1, t3, t4, m0, m2, hlt, hget, hmu, nes, f0, f1, f2, b0, wi, hmu1]
      have hi00 : i = 0 := by
        simp at hs0; rcases hs0 with h | h
        · exact h
        · rw [h] at hlt; simp at hlt
      subst hi00
      refine st_out fun s' ht hm' hn' hu' => ?_
      have q1 := ht 1
      have q2 := ht 2
      have q3 := ht 3
      have q4 := ht 4
      simp -dsimp [t1, t2, t3] at q1 q2 q3 q4 hm' hn' hu'
      clear ht
      have hn0 : ¬ s.n = 0 := by omega
      have hn1 : ¬ s.n = 1 := by omega
      refine ⟨1, .loc (s.n + 1 + 1 + 1), z, q1, q2, q3, q4, by rw [hu', hmu], by omega, by omega, by simp [hm', hn0, hn1, f0, m0], by simp [hm', hn0, hn1, f1, m1], hz, by simp [hm', hn0, hn1], .inr ⟨s.n + 1 + 1 + 1, rfl, by omega, by omega, ?_⟩, by simp⟩
      rw [htk]; simp [hm', hn0, hn1, f2]
    · have g1 := far hi1
      have g2 : ¬ id = 2 := by omega
      have g0 : ¬ id = 0 := by omega
      have g3 : ¬ id = 1 := by omega
      simp -dsimp [t1, t3, t4, m0, m2, hlt, hget, hmu, nes, f0, f1, f2, b0, b1, g1, g2, g0, g3, Ne.symm g0, Ne.symm g2, Ne.symm g3, him, wi, hmu1]
      refine st_out fun s' ht hm' hn' hu' => ?_
      have q1 := ht 1
      have q2 := ht 2
      have q3 := ht 3
      have q4 := ht 4
      simp -dsimp [t1, t2, t3] at q1 q2 q3 q4 hm' hn' hu'
      clear ht
      have hn0 : ¬ s.n = 0 := by omega
      have hn1 : ¬ s.n = 1 := by omega
      refine ⟨i + 1, .loc (s.n + 1 + 1 + 1), z, q1, q2, q3, q4, by rw [hu', hmu], by omega, by omega, by simp [hm', hn0, hn1, f0, m0, Ne.symm g0], by simp [hm', hn0, hn1, f1, m1, Ne.symm g3], hz, by simp [hm', hn0, hn1], .inr ⟨s.n + 1 + 1 + 1, rfl, by omega, by omega, ?_⟩, by simp⟩
      rw [htk]; simp [hm', hn0, hn1, f2, nes]
  · rintro s ⟨i, st, z, t1, t2, t3, t4, hmu, hi, hn, m0, m1, hz, m2, hst, hend⟩
    have := hend rfl
    subst this
    rw [List.take_length] at hst
    obtain ⟨z0, z1, rfl⟩ : ∃ a b, z = [a, b] := by
      match z, hz with
      | [a, b], _ => exact ⟨a, b, rfl⟩
    rcases hst with ⟨rfl, hs0⟩ | ⟨id, rfl, hi0, hi1, him⟩
    · simp -dsimp [t2, t3, m1, m2, hs0]
    · have g3 : ¬ id = 1 := by omega
      simp -dsimp [t2, t3, m1, m2, him, g3]
def deskNew (p : Place) : Desk := if placeOk p then ⟨p, []⟩ else noDeskV
end TL

/- TL, part 25: a call whose arguments are lent and whose result is the caller's own. -/
set_option linter.unusedVariables false
set_option linter.unusedSimpArgs false
namespace TL
open Go Go.RowKit
variable {P : Program}
mutual
/-- Values of a frame that name nothing but its own memory. -/
def T.fl : T → Bool
  | .v x => x.flat
  | .nil => true
  | .sv _ _ _ => true
  | .ptr _ _ => true
  | .agg cs => flT cs
  | .tup cs => flT cs
  | _ => false
def flT : List T → Bool
  | [] => true
  | x :: xs => x.fl && flT xs
end
@[simp] theorem flT_nil : flT [] = true := rfl
@[simp] theorem flT_cons (x : T) (xs : List T) : flT (x :: xs) = (x.fl && flT xs) := rfl
@[simp] theorem fl_v (x : V) : (T.v x).fl = x.flat := rfl
@[simp] theorem fl_nil : T.nil.fl = true := rfl
@[simp] theorem fl_sv (i j k : Nat) : (T.sv i j k).fl = true := rfl
@[simp] theorem fl_ptr (i j : Nat) : (T.ptr i j).fl = true := rfl
@[simp] theorem fl_agg (cs : List T) : (T.agg cs).fl = flT cs := rfl
@[simp] theorem fl_tup (cs : List T) : (T.tup cs).fl = flT cs := rfl
theorem flT_append (a b : List T) : flT (a ++ b) = (flT a && flT b) := by
  induction a with
  | nil => simp
  | cons x xs ih => simp [ih, Bool.and_assoc]
def Blk.fl : Blk → Bool
  | .box _ _ cs => flT cs
  | _ => false
section
variable {φ : Phi} {Z Z' : Zs} {w w' : World}
mutual
theorem fl_rep {x : T} {u : Value} (h : x.fl = true) : RepT φ Z w x u → RepT φ Z' w' x u
  | .v g => .v (flat_rep h g)
  | .nil => .nil
  | .sv g hl hm ha h0 => .sv g hl hm ha h0
  | .ptr g => .ptr g
  | .ptrs g => .ptrs g
  | .agg g => .agg (flT_rep (by simpa using h) g)
  | .tup g => .tup (flT_rep (by simpa using h) g)
theorem flT_rep {x : List T} {u : List Value} (h : flT x = true) : RepTs φ Z w x u → RepTs φ Z' w' x u
  | .nil => .nil
  | .cons g t => .cons (fl_rep (by simp at h; exact h.1) g) (flT_rep (by simp at h; exact h.2) t)
end
end
def joinM (n : Nat) (m m' : Mem) : Mem := fun i => if i < n then m i else m' i
theorem FnS.own {f : Nat} {m : Mem} {n : Nat} {args : List T} {vs : List V} {post Q : T → Mem → Nat → Prop} (h : FnS P f (fun _ => none) n (vs.map .v) post) (ha : mapO (bor true m 4) args = some vs)
    (hp : ∀ t m' n', post t m' n' → ∃ m2, LeM m2 m' ∧ t.fl = true ∧ n ≤ n' ∧ (∀ i b, m2 i = some b → n ≤ i ∧ b.fl = true) ∧ Q t m2 n') :
    FnS P f m n args (fun t mm n' => ∃ m', Q t m' n' ∧ mm = joinM n m m') := by
  refine ⟨h.1, fun φ Z w us hm hr => ?_⟩
  let Zb : Zs := fun k o => Z k o ∨ Owned φ m k
  have hZ : SubZ Z Zb := fun k o h => .inl h
  have hvs := bors_sound hm (k := true) (Zb := Zb) hZ (fun _ g hg o => .inr hg) args us vs hr ha
  have no : ∀ k, ¬ Owned φ (fun _ => none) k := fun k ⟨i, b, v, h1, _⟩ => by cases h1
  have hm0 : RelM P φ Zb (fun _ => none) n w := by
    refine ⟨hm.ok, hm.fresh, fun i b hb => (by cases hb), fun i j a b u v k h1 => (by cases h1), ⟨fun k o hz => ?_, hm.zlt.gl.keep hZ fun _ _ _ => rfl⟩⟩
    rcases hz with hz | hz
    · exact hm.zlt.lt k o hz
    · exact hm.owned_lt hz
  refine (h.2 φ Zb w us hm0 hvs.toTs).mono fun e w' hh => ?_
  obtain ⟨v, φ', Z', m1, n', t, rfl, h1, h2, h3, h4⟩ := hh
  obtain ⟨m', hle, ht, hn, hb, h4⟩ := hp t m1 n' h4
  have h1 := h1.le hle
  have lift : ∀ k, Owned φ' m' k → Owned φ' m1 k := fun k ⟨i, b, v, c1, c2⟩ => ⟨i, b, v, hle _ _ c1, c2⟩
  have old : ∀ (i : Nat) (b : Blk) (v : Value), m i = some b → φ' i = some v → φ i = some v := fun i b v h5 h6 => by
    obtain ⟨u, h7, _⟩ := hm.blk i b h5
    rw [h3.ext i u h7] at h6; cases h6; exact h7
  have lt : ∀ (i : Nat) (b : Blk) (v : Value), m i = some b → i < n := fun i b v h5 => by
    obtain ⟨u, h7, _⟩ := hm.blk i b h5
    rcases Nat.lt_or_ge i n with h | h
    · exact h
    · rw [hm.fresh i h] at h7; cases h7
  have new : ∀ (i : Nat) (b : Blk) (v : Value) (k : Nat), m' i = some b → isRo b = false → φ' i = some v → blkOf v = some k → w.heap.size ≤ k := fun i b v k h5 h6 h7 h8 => by
    rcases Nat.lt_or_ge k w.heap.size with h | h
    · exact absurd (h3.own k h (lift k ⟨i, b, v, h5, h6, h7, h8⟩)) (no k)
    · exact h
  have kz : KeepZ Z w w' := fun k o hz => h3.keep k o (.inl hz)
  refine ⟨v, φ', Z, joinM n m m', n', t, rfl, ⟨h1.ok, h1.fresh, fun i b hi => ?_, fun i j a b u v k hi hj hu hv hku hkv ra rb => ?_, ⟨fun k o hz => Nat.lt_of_lt_of_le (hm.zlt.lt k o hz) h3.size, hm.zlt.gl.keep (fun _ _ h => h) kz⟩⟩, fl_rep ht h2,
    ⟨h3.ext, fun k o hz => hz, kz, h3.os, h3.tape, h3.output, h3.size, fun k hk ho => h3.out k hk (no k), fun k hk ho => ?_, fun k o hz => .inl hz⟩, m', h4, rfl⟩
  · unfold joinM at hi
    split at hi
    · obtain ⟨v, h5, h6⟩ := hm.blk i b hi
      refine ⟨v, h3.ext _ _ h5, h6.keep h3.ext (fun _ _ h => h) kz fun hro k hk => ⟨h3.out k (h6.lt hro hk) (no k), fun o ho => ho⟩⟩
    · obtain ⟨v, h5, h6⟩ := h1.blk i b hi
      refine ⟨v, h5, ?_⟩
      have hf := (hb i b hi).2
      cases b with
      | ro xs => cases hf
      | arr e xs => cases hf
      | box e z cs =>
        obtain ⟨a1, a2, k, cur, a3, a4, a5, a6, a7, a8, a9⟩ := h6
        exact ⟨a1, a2, k, cur, a3, a4, a5, flT_rep hf a6, a7, fun o ho => a8 o (h3.sub k o (.inl ho)), a9⟩
  · unfold joinM at hi hj
    split at hi <;> split at hj
    · exact hm.ne i j a b u v k hi hj (old _ _ _ hi hu) (old _ _ _ hj hv) hku hkv ra rb
    · have l1 := hm.owned_lt ⟨i, a, u, hi, ra, old _ _ _ hi hu, hku⟩
      have l2 := new j b v k hj rb hv hkv
      omega
    · have l1 := hm.owned_lt ⟨j, b, v, hj, rb, old _ _ _ hj hv, hkv⟩
      have l2 := new i a u k hi ra hu hku
      omega
    · exact h1.ne i j a b u v k hi hj hu hv hku hkv ra rb
  · obtain ⟨i, b, v, h5, h6, h7, h8⟩ := ho
    unfold joinM at h5
    split at h5
    · exact ⟨i, b, v, h5, h6, old _ _ _ h5 h7, h8⟩
    · have := new i b v k h5 h6 h7 h8
      omega
theorem callO_ {f : Nat} {m : Mem} {n : Nat} {args : List T} {vs : List V} {k : T → Mem → Nat → Prop} {post Q : T → Mem → Nat → Prop} (h : FnS P f (fun _ => none) n (vs.map .v) post) (ha : mapO (bor true m 4) args = some vs)
    (hp : ∀ t m' n', post t m' n' → ∃ m2, LeM m2 m' ∧ t.fl = true ∧ n ≤ n' ∧ (∀ i b, m2 i = some b → n ≤ i ∧ b.fl = true) ∧ Q t m2 n') (hk : ∀ t m' n', Q t m' n' → k t (joinM n m m') n') : callP P f m n args k :=
  callS_ (h.own ha hp) fun t mm n' ⟨m', h1, h2⟩ => by rw [h2]; exact hk t m' n' h1
end TL

/- TL, part 22: contracts over abstract memory, called with rows of the caller's own. -/
set_option linter.unusedVariables false
set_option linter.unusedSimpArgs false
namespace TL
open Go Go.RowKit
variable {P : Program}
/-- A contract for pure arguments serves for rows that nobody changes, too. -/
theorem FnS.lend {f : Nat} {m : Mem} {n : Nat} {args : List T} {vs : List V} {post : T → Mem → Nat → Prop} (h : FnS P f m n (vs.map .v) post) (ha : mapO (bor false m 4) args = some vs) : FnS P f m n args post :=
  ⟨h.1, fun φ Z w us hm hr => h.2 φ Z w us hm (bors_sound hm (k := false) (Zb := Z) (fun _ _ h => h) (by simp) args us vs hr ha).toTs⟩
theorem callL_ {f : Nat} {m : Mem} {n : Nat} {args : List T} {vs : List V} {k : T → Mem → Nat → Prop} {post : T → Mem → Nat → Prop} (h : FnS P f m n (vs.map .v) post) (ha : mapO (bor false m 4) args = some vs) (hk : ∀ t m' n', post t m' n' → k t m' n') : callP P f m n args k := callS_ (h.lend ha) hk
end TL

/- Places made for the laws, and copies of places, in memory of the caller's own. -/
set_option linter.unusedSimpArgs false
set_option linter.unusedVariables false
set_option maxRecDepth 100000
set_option maxHeartbeats 4000000
set_option pp.maxSteps 1500
namespace TL
open Go Go.Proofs
attribute [local simp] marksV storyV codeV Claim.v Place.v Desk.v
theorem marks_filled (l : List Mark) : (filled Mark.v [T.v (.int .i64 0), T.v (.int .i64 0)] l l.length).flatten = mkT l := by
  rw [filled_end]
  induction l with
  | nil => rfl
  | cons x xs ih => rw [List.map_cons, List.flatten_cons, ih]; rfl
def ItmO (l : List Mark) (m : Mem) (n : Nat) (a : Nat) (s : S) : Prop := ∃ i : Nat, s.tm 0 = .v (.sl (l.map Mark.v)) ∧ s.tm 3 = .sv n 0 l.length ∧ s.tm 4 = .v (.int .i64 i) ∧ i ≤ l.length ∧ n < s.n ∧ s.m n = some (.box 126 2 (filled Mark.v [T.v (.int .i64 0), T.v (.int .i64 0)] l i).flatten) ∧ (∀ j, j < n → s.m j = m j) ∧ (a = 1 → i = l.length)
theorem toMarkS_own (l : List Mark) (hl : l.length ≤ 1048576) (m : Mem) (n : Nat) : FnS Tryz.prog 116 m n [.v (.sl (l.map Mark.v))] (fun t m' n' => n ≤ n' ∧ (∀ j, j < n → m' j = m j) ∧ OwnRow m' n n' t l) := by
  have b1 : (16 : Int) * l.length ≤ 281474976710656 := by omega
  have b2 : (l.length : Int) ≤ 9223372036854775807 := by omega
  have b3 : (0 : Int) ≤ l.length := by omega
  refine FnS_of (rs := [.tmp 2]) true Tryz.func116 rfl rfl rfl rfl (Nat.le_of_ble_eq_true rfl) ?_
  simp -dsimp [b1, b2, b3]
  refine twp_loopC (ItmO l m n 0) (fun s => l.length - natOf (s.tm 4)) (ItmO l m n 1) ?_ ?_ ?_
  · exact ⟨0, by simp -dsimp, by simp -dsimp, by simp -dsimp, by omega, by simp -dsimp <;> omega, by rw [filled_zero]; simp -dsimp, fun j j1 => by simp -dsimp [far j1], by simp⟩
  · rintro s ⟨i, h0, h3, h4, hi, hn, hm, hout, hend⟩
    by_cases hlt : i < l.length
    case neg =>
      simp -dsimp [h0, h4, hlt]
      exact ⟨i, by simp -dsimp [h0], by simp -dsimp [h3], by simp -dsimp [h4], hi, by simp -dsimp; omega, by simp -dsimp [hm], fun j j1 => by simp -dsimp [hout j j1], fun _ => by omega⟩
    have hget : (l.map Mark.v)[i]? = some (l[i].v) := by simp [hlt]
    have wi : IntKind.wrap .i64 ((i : Int) + 1) = ((i + 1 : Nat) : Int) := by rw [w64 (by omega) (by omega)]; omega
    have hmu : l.length - (i + 1) < l.length - i := by omega
    have hfl : (filled Mark.v [T.v (.int .i64 0), T.v (.int .i64 0)] l i).flatten.length = l.length * 2 := filled_flat_len (k := 2) elemOk_mark rfl hi
    have hst := filled_set (v := Mark.v) (zs := [T.v (.int .i64 0), T.v (.int .i64 0)]) (k := 2) elemOk_mark rfl hlt
    have hoff : i * 2 + 2 ≤ l.length * 2 := by omega
    have hlt' : (i : Int) < l.length := by omega
    rw [cellsT_mark] at hst
    simp -dsimp [h0, h3, h4, hlt, hget]
    refine call_ (toMark_fn l[i]) (by simp -dsimp [Mark.v]) ?_
    simp -dsimp [Mark.v, h0, h3, h4, hlt, hlt', hm, hfl, hoff, hst, wi, hmu, filled_len]
    exact ⟨i + 1, by simp -dsimp [h0], by simp -dsimp [h3], by simp -dsimp, by omega, by simp -dsimp; omega, by simp -dsimp, fun j j1 => by simp -dsimp [show ¬ j = n by omega, hout j j1], by simp⟩
  · rintro s ⟨i, h0, h3, h4, hi, hn, hm, hout, hend⟩
    have := hend rfl
    subst this
    rw [marks_filled] at hm
    simp -dsimp [h3]
    exact ⟨by omega, hout, n, rfl, Nat.le_refl _, by omega, hm⟩
theorem toClaim_own (c : Claim) (hc : c.small) (m : Mem) (n : Nat) : FnS Tryz.prog 90 m n [.v c.v] (fun t m' n' => n ≤ n' ∧ (∀ j, j < n → m' j = m j) ∧ ∃ st, t = .agg [.v (.int .i64 c.who), st] ∧ OwnRow m' n n' st c.says) := by
  refine FnS_of (rs := [.cell 2 74]) true Tryz.func90 rfl rfl rfl rfl (Nat.le_of_ble_eq_true rfl) ?_
  have e0 : ¬ n = n + 1 := by omega
  have e5 : ¬ n + 1 = n := by omega
  simp -dsimp [Mark.v, nes, e0, e5]
  refine callS_ (toMarkS_own c.says hc _ _) ?_
  rintro t m1 n1 ⟨hn1, hout, id, rfl, i0, i1, him⟩
  have k0 := hout n (by omega)
  have k1 := hout (n + 1) (by omega)
  have k2 := hout (n + 1 + 1) (by omega)
  simp -dsimp [nes, e0, e5] at k0 k1 k2
  simp -dsimp [nes, e0, e5, k0, k1, k2]
  have ho : ∀ j, j < n → m1 j = m j := fun j j1 => by have hj := hout j (by omega); simp [far j1] at hj; exact hj
  exact ⟨by omega, fun j j1 => by simp [show ¬ j = n + 1 by omega, show ¬ j = n + 1 + 1 by omega, ho j j1], id, rfl, by omega, by omega, by simp [show ¬ id = n + 1 by omega, show ¬ id = n + 1 + 1 by omega, him]⟩
def IcsO (l : List Claim) (m0 : Mem) (n0 : Nat) (e : Nat) (s : S) : Prop := ∃ (i id : Nat) (js : List Nat), s.tm 7 = .v (.sl (l.map Claim.v)) ∧ s.tm 8 = .v (.int .i64 l.length) ∧ s.tm 9 = .v (.int .i64 i) ∧ s.mu = true ∧ i ≤ l.length ∧ s.tm 3 = .sv id 0 i ∧ n0 ≤ id ∧ id < s.n ∧ id ∉ js ∧ s.m id = some (.box 74 2 (clT (l.take i) js)) ∧
  (∀ j ∈ js, n0 ≤ j ∧ j < s.n) ∧ js.Nodup ∧ Says s.m (l.take i) js ∧ (∀ j, j < n0 → s.m j = m0 j) ∧ (e = 1 → i = l.length)
theorem copyStory_deep (l : List Claim) (hl : l.length ≤ 1048576) (hs : ∀ c ∈ l, c.small) (hne : ∀ c ∈ l, c.says ≠ []) (m : Mem) (n : Nat) : FnS Tryz.prog 72 m n [.v (storyV l)] (fun t m' n' => n ≤ n' ∧ (∀ j, j < n → m' j = m j) ∧ ∃ js, OwnRowC m' n n' t l js) := by
  refine FnS_of (rs := [.tmp 2]) true Tryz.func72 rfl rfl rfl rfl (Nat.le_of_ble_eq_true rfl) ?_
  simp -dsimp
  refine twp_loopC (IcsO l m n 0) (fun s => l.length - natOf (s.tm 9)) (IcsO l m n 1) ?_ ?_ ?_
  · exact ⟨0, n, [], by simp -dsimp, by simp -dsimp, by simp -dsimp, by simp -dsimp, by omega, by simp -dsimp, Nat.le_refl _, by simp -dsimp, by simp, by simp -dsimp, by simp, List.nodup_nil, trivial, fun j j1 => by simp -dsimp [far j1], by simp⟩
  · rintro s ⟨i, id, js, t7, t8, t9, hmu, hi, t3, hid0, hid, hin, hm, hjs, hnd, hsy, hout, hend⟩
    by_cases hlt : i < l.length
    case neg =>
      simp -dsimp [t8, t9, hlt]
      exact ⟨i, id, js, by simp -dsimp [t7], by simp -dsimp [t8], by simp -dsimp [t9], by simp -dsimp [hmu], hi, by simp -dsimp [t3], hid0, by simp -dsimp [hid], hin, by simp -dsimp [hm], fun j hj => by have := hjs j hj; simp -dsimp; omega, hnd, hsy, fun j j1 => by simp -dsimp [hout j j1], fun _ => by omega⟩
    have hget : (l.map Claim.v)[i]? = some (l[i].v) := by simp [hlt]
    have wi : IntKind.wrap .i64 ((i : Int) + 1) = ((i + 1 : Nat) : Int) := by rw [w64 (by omega) (by omega)]; omega
    have hmu1 : l.length - (i + 1) < l.length - i := by omega
    have f1 := far hid
    have b1 : (i + 1) * 32 ≤ 140737488355328 := by omega
    have htk : l.take (i + 1) = l.take i ++ [l[i]] := List.take_succ_eq_append_getElem hlt
    have htl : (l.take i).length = i := by simp; omega
    have r5 := clT_len (l.take i) js hsy.len
    have r6 := clT_cells (l.take i) js
    have hcm := List.getElem_mem hlt
    have hclone := fun m n => cloneMarks_own l[i].says (hne _ hcm) (hs _ hcm) m n
    rw [htl] at r5
    generalize hc : l[i] = c at *
    obtain ⟨c1, c2⟩ := c
    simp -dsimp [t7, t8, t9, hlt, hget, hc]
    refine twp_draw (List.range 10) [s.n] (List.replicate 10 [0]) (List.replicate 10 [0]) (by kernel_rfl) (by kernel_rfl) (by kernel_rfl) (by kernel_rfl) ?_
    simp -dsimp [List.range_succ, t3]
    refine callS_ (hclone _ _) ?_
    rintro t m2 n2 ⟨hn2, hout2, id2, rfl, i0, i1, him2⟩
    have k0 := hout2 s.n (by omega)
    have k1 := hout2 id (by omega)
    have g0 := far (show s.n < n2 by omega)
    have g1 := far (show id < n2 by omega)
    have g2 := far i1
    simp -dsimp [f1, hm] at k0 k1
    simp -dsimp [List.range_succ, t3, t9, hmu, f1, hm, hc, k0, k1, g0, g1, g2, r5, r6, b1, wi, hmu1, nes]
    refine st_out fun s' ht hm' hn' hu' => ?_
    have a3 := ht 3
    have a7 := ht 7
    have a8 := ht 8
    have a9 := ht 9
    simp -dsimp [t7, t8, wi] at a3 a7 a8 a9 hm' hn' hu'
    clear ht
    have hjk : ∀ j ∈ js, s'.m j = s.m j := fun j hj => by
      have q1 := hjs j hj
      have q2 : ¬ j = id := fun e => hin (e ▸ hj)
      have q3 := hout2 j (by omega)
      simp [far q1.2] at q3
      simp [hm', far (show j < n2 by omega), q2, q3]
    have hsl : (l.take i).length = js.length := hsy.len
    refine ⟨i + 1, n2 + 1, js ++ [id2], a7, a8, a9, by rw [hu', hmu], by omega, a3, by omega, by omega, ?_, ?_, fun j hj => ?_, ?_, ?_, fun j j1 => ?_, by simp⟩
    · intro hj
      rcases List.mem_append.1 hj with hj | hj
      · have := hjs _ hj; omega
      · have := List.mem_singleton.1 hj; omega
    · rw [htk, clT_app _ _ _ _ hsl]
      simp [hm', nes, List.take_of_length_le (show (clT (l.take i) js).length ≤ i * 2 by omega)]
    · rcases List.mem_append.1 hj with hj | hj
      · have := hjs j hj; omega
      · rw [List.mem_singleton.1 hj]; omega
    · rw [List.nodup_append]
      refine ⟨hnd, by simp, fun y hy z hz => ?_⟩
      rw [List.mem_singleton.1 hz]
      have := hjs y hy
      omega
    · rw [htk]
      exact (Says.app hsl).2 ⟨hsy.keep hjk, ⟨by simp [hm', g2, show ¬ id2 = id by omega, him2], trivial⟩⟩
    · have q3 := hout2 j (by omega)
      simp [far (show j < s.n by omega)] at q3
      simp [hm', far (show j < n2 by omega), show ¬ j = id by omega, q3, hout j j1]
  · rintro s ⟨i, id, js, t7, t8, t9, hmu, hi, t3, hid0, hid, hin, hm, hjs, hnd, hsy, hout, hend⟩
    have := hend rfl
    subst this
    rw [List.take_length] at hm hsy
    simp -dsimp [t3]
    exact ⟨by omega, hout, js, hjs, hnd, hsy, .inr ⟨id, rfl, hid0, hid, hin, hm⟩⟩
/-- A place of the caller's own. -/
def DeepP (p : Place) (m : Mem) (n : Nat) (t : T) (m' : Mem) (n' : Nat) : Prop := n ≤ n' ∧ (∀ j, j < n → m' j = m j) ∧ ∃ st js, t = .agg [.v (.int .i64 p.people), st] ∧ OwnRowC m' n n' st p.story js
theorem OwnRowC.wide {m m' : Mem} {lo hi lo' hi' : Nat} {st : T} {l : List Claim} {js : List Nat} (h : OwnRowC m lo hi st l js) (h1 : lo' ≤ lo) (h2 : hi ≤ hi') (hk : ∀ j, lo ≤ j → j < hi → m' j = m j) : OwnRowC m' lo' hi' st l js := by
  obtain ⟨a1, a2, a3, a4⟩ := h.keep hk
  refine ⟨fun j hj => by have := a1 j hj; omega, a2, a3, ?_⟩
  rcases a4 with a4 | ⟨id, e, i0, i1, i2, i3⟩
  · exact .inl a4
  · exact .inr ⟨id, e, by omega, by omega, i2, i3⟩
theorem copyPlace_deep (p : Place) (hp : p.small) (hne : ∀ c ∈ p.story, c.says ≠ []) (m : Mem) (n : Nat) : FnS Tryz.prog 42 m n [.v p.v] (DeepP p m n) := by
  refine FnS_of (rs := [.cell 2 34]) true Tryz.func42 rfl rfl rfl rfl (Nat.le_of_ble_eq_true rfl) ?_
  have e0 : ¬ n = n + 1 := by omega
  have e5 : ¬ n + 1 = n := by omega
  simp -dsimp
  refine twp_draw (List.range 7) [n] (List.replicate 7 [0]) (List.replicate 7 [0]) (by kernel_rfl) (by kernel_rfl) (by kernel_rfl) (by kernel_rfl) ?_
  simp -dsimp [List.range_succ, e0, e5, nes]
  refine callS_ (copyStory_deep p.story hp.1 hp.2 hne _ _) ?_
  rintro t m1 n1 ⟨hn1, hout1, js, hrow⟩
  have k0 := hout1 n (by omega)
  have k1 := hout1 (n + 1) (by omega)
  simp -dsimp [nes, e0, e5] at k0 k1
  have hc := hrow.cell
  have hcs := hrow.cells
  simp -dsimp [List.range_succ, k0, k1, nes, e0, e5, hc, hcs]
  refine ⟨by omega, fun j j1 => ?_, t, js, rfl, hrow.wide (by omega) (by omega) fun j j1 j2 => by simp [show ¬ j = n + 1 by omega]⟩
  have := hout1 j (by omega)
  simp [far j1, show ¬ j = n + 1 by omega] at this ⊢
  exact this
def DeepN (p : Place) (m : Mem) (n : Nat) (t : T) (m' : Mem) (n' : Nat) : Prop := n ≤ n' ∧ (∀ j, j < n → m' j = m j) ∧ ∃ st js, t = .tup [.agg [.v (.int .i64 (deskNew p).now.people), st, .nil], .v (.bool (placeOk p))] ∧ OwnRowC m' n n' st (deskNew p).now.story js
end TL

/- Copies of desks whose rows are the caller's own, all the way down. -/
set_option linter.unusedSimpArgs false
set_option linter.unusedVariables false
set_option maxRecDepth 100000
set_option maxHeartbeats 4000000
set_option pp.maxSteps 1500
namespace TL
open Go Go.Proofs
attribute [local simp] marksV storyV codeV Claim.v Place.v Desk.v
/-- Places as cells, their rows of claims told. -/
def pcT : List Place → List T → List T
  | p :: l, st :: ss => .v (.int .i64 p.people) :: st :: pcT l ss
  | _, _ => []
@[simp] theorem pcT_nil (ss : List T) : pcT [] ss = [] := by cases ss <;> rfl
@[simp] theorem pcT_cons (p : Place) (l : List Place) (st : T) (ss : List T) : pcT (p :: l) (st :: ss) = .v (.int .i64 p.people) :: st :: pcT l ss := rfl
/-- Places whose rows are one's own, one after the other from lo to hi. -/
def OwnPl (m : Mem) : Nat → Nat → List Place → List T → Prop
  | lo, hi, [], [] => lo ≤ hi
  | lo, hi, p :: l, st :: ss => ∃ mid js, lo ≤ mid ∧ OwnRowC m lo mid st p.story js ∧ OwnPl m mid hi l ss
  | _, _, _, _ => False
theorem OwnPl.le {m : Mem} : ∀ {l : List Place} {ss : List T} {lo hi : Nat}, OwnPl m lo hi l ss → lo ≤ hi
  | [], [], lo, hi, h => h
  | p :: l, st :: ss, lo, hi, ⟨mid, js, h1, h2, h3⟩ => Nat.le_trans h1 h3.le
  | [], st :: ss, _, _, h => h.elim
  | p :: l, [], _, _, h => h.elim
theorem OwnPl.len {m : Mem} : ∀ {l : List Place} {ss : List T} {lo hi : Nat}, OwnPl m lo hi l ss → l.length = ss.length
  | [], [], lo, hi, h => rfl
  | p :: l, st :: ss, lo, hi, ⟨mid, js, h1, h2, h3⟩ => by simp [h3.len]
  | [], st :: ss, _, _, h => h.elim
  | p :: l, [], _, _, h => h.elim
theorem OwnPl.keep {m m' : Mem} : ∀ {l : List Place} {ss : List T} {lo hi : Nat}, OwnPl m lo hi l ss → (∀ j, lo ≤ j → j < hi → m' j = m j) → OwnPl m' lo hi l ss
  | [], [], lo, hi, h, _ => h
  | p :: l, st :: ss, lo, hi, ⟨mid, js, h1, h2, h3⟩, hk => ⟨mid, js, h1, h2.keep fun j j1 j2 => hk j j1 (Nat.lt_of_lt_of_le j2 h3.le), h3.keep fun j j1 j2 => hk j (Nat.le_trans h1 j1) j2⟩
  | [], st :: ss, _, _, h, _ => h.elim
  | p :: l, [], _, _, h, _ => h.elim
theorem OwnPl.snoc {m : Mem} {p : Place} {st : T} {js : List Nat} {a b : Nat} : ∀ {l : List Place} {ss : List T} {lo hi : Nat}, OwnPl m lo hi l ss → hi ≤ a → a ≤ b → OwnRowC m a b st p.story js → OwnPl m lo b (l ++ [p]) (ss ++ [st])
  | [], [], lo, hi, h, h1, h2, h3 => ⟨b, js, by have : lo ≤ hi := h; omega, h3.wide (by have : lo ≤ hi := h; omega) (Nat.le_refl _) (fun _ _ _ => rfl), Nat.le_refl _⟩
  | q :: l, s :: ss, lo, hi, ⟨mid, k, g1, g2, g3⟩, h1, h2, h3 => ⟨mid, k, g1, g2, g3.snoc h1 h2 h3⟩
  | [], st :: ss, _, _, h, _, _, _ => h.elim
  | p :: l, [], _, _, h, _, _, _ => h.elim
theorem pcT_app : ∀ (A B : List Place) (sa sb : List T), A.length = sa.length → pcT (A ++ B) (sa ++ sb) = pcT A sa ++ pcT B sb
  | [], B, [], sb, h => rfl
  | c :: A, B, j :: sa, sb, h => by simp [pcT_app A B sa sb (by simpa using h)]
  | [], B, j :: sa, sb, h => by simp at h
  | c :: A, B, [], sb, h => by simp at h
theorem pcT_len : ∀ (A : List Place) (sa : List T), A.length = sa.length → (pcT A sa).length = A.length * 2
  | [], [], h => rfl
  | c :: A, j :: sa, h => by simp [pcT_len A sa (by simpa using h)]; omega
  | [], j :: sa, h => by simp at h
  | c :: A, [], h => by simp at h
theorem OwnPl.cells {m : Mem} : ∀ {l : List Place} {ss : List T} {lo hi : Nat}, OwnPl m lo hi l ss → allC (pcT l ss)
  | [], [], lo, hi, h => by simp
  | p :: l, st :: ss, lo, hi, ⟨mid, js, h1, h2, h3⟩ => by
    intro x hx
    simp only [pcT_cons, List.mem_cons] at hx
    rcases hx with rfl | rfl | hx
    · rfl
    · exact h2.cell
    · exact h3.cells x hx
  | [], st :: ss, _, _, h => h.elim
  | p :: l, [], _, _, h => h.elim
end TL

/- Copies of desks whose rows are the caller's own, all the way down: the walk. -/
set_option linter.unusedSimpArgs false
set_option linter.unusedVariables false
set_option maxRecDepth 100000
set_option maxHeartbeats 4000000
set_option pp.maxSteps 1500
namespace TL
open Go Go.Proofs
attribute [local simp] marksV storyV codeV Claim.v Place.v Desk.v
/-- A row of places of one's own; ex: what lies behind it in its block. -/
def PastO (m : Mem) (b hi : Nat) (P : T) (l : List Place) (ss : List T) : Prop := (P = .nil ∧ l = [] ∧ ss = []) ∨ ∃ id ex, P = .sv id 0 l.length ∧ b ≤ id ∧ id < hi ∧ flT ex = true ∧ m id = some (.box 34 2 (pcT l ss ++ ex))
theorem PastO.cell {m : Mem} {b hi : Nat} {P : T} {l : List Place} {ss : List T} (h : PastO m b hi P l ss) : P.cell = true := by
  rcases h with ⟨rfl, _⟩ | ⟨id, ex, rfl, _⟩ <;> rfl
theorem PastO.cells {m : Mem} {b hi : Nat} {P : T} {l : List Place} {ss : List T} (h : PastO m b hi P l ss) : P.cells = [P] := by
  rcases h with ⟨rfl, _⟩ | ⟨id, ex, rfl, _⟩ <;> rfl
/-- A desk of one's own: the claims of its place lie from n to a, those of its places of before from a to b, the row of these from b on. -/
def DeepD (d : Desk) (m : Mem) (n : Nat) (t : T) (m' : Mem) (n' : Nat) : Prop := n ≤ n' ∧ (∀ j, j < n → m' j = m j) ∧ ∃ (sn P : T) (jn : List Nat) (ss : List T) (a b : Nat), t = .agg [.v (.int .i64 d.now.people), sn, P] ∧ OwnRowC m' n a sn d.now.story jn ∧ n ≤ a ∧ OwnPl m' a b d.past ss ∧ b ≤ n' ∧ PastO m' b n' P d.past ss
def IcdO (d : Desk) (m0 : Mem) (n0 q : Nat) (sn : T) (jn : List Nat) (e : Nat) (s : S) : Prop := ∃ (i b : Nat) (P : T) (ss : List T), s.tm 2 = .ptr (n0 + 1) 0 ∧ s.tm 3 = .ptr q 0 ∧ s.tm 11 = .v (.sl (d.past.map Place.v)) ∧ s.tm 12 = .v (.int .i64 d.past.length) ∧ s.tm 13 = .v (.int .i64 i) ∧ s.mu = true ∧ i ≤ d.past.length ∧ q < s.n ∧
  s.m (n0 + 1) = some (.box 37 3 [.v (.int .i64 0), .nil, .nil]) ∧ s.m q = some (.box 37 3 [.v (.int .i64 d.now.people), sn, P]) ∧ OwnRowC s.m (n0 + 1 + 1) q sn d.now.story jn ∧ OwnPl s.m (q + 1) b (d.past.take i) ss ∧ b ≤ s.n ∧ PastO s.m b s.n P (d.past.take i) ss ∧ (∀ j, j < n0 → s.m j = m0 j) ∧ (e = 1 → i = d.past.length)
theorem copyDesk_deep (d : Desk) (hd : d.small) (hn0 : ∀ c ∈ d.now.story, c.says ≠ []) (hp0 : ∀ p ∈ d.past, ∀ c ∈ p.story, c.says ≠ []) (m : Mem) (n : Nat) : FnS Tryz.prog 35 m n [.v d.v] (DeepD d m n) := by
  have hl := hd.2.1
  refine FnS_of (rs := [.cell 2 37]) true Tryz.func35 rfl rfl rfl rfl (Nat.le_of_ble_eq_true rfl) ?_
  have e0 : ¬ n = n + 1 := by omega
  have e5 : ¬ n + 1 = n := by omega
  simp -dsimp [e0, e5, nes]
  refine callL_ (vs := [d.now.v]) (copyPlace_deep d.now hd.1 hn0 _ _) (by simp -dsimp) ?_
  rintro t m1 n1 ⟨hn1, hout1, sn, jn, rfl, hrow⟩
  have k0 := hout1 n (by omega)
  have k1 := hout1 (n + 1) (by omega)
  simp -dsimp [nes, e0, e5] at k0 k1
  have g0 := far (show n < n1 by omega)
  have g1 := far (show n + 1 < n1 by omega)
  have hc := hrow.cell
  have hcs := hrow.cells
  simp -dsimp [k0, k1, nes, g0, g1, hc, hcs, e0, e5]
  refine twp_loopC (IcdO d m n n1 sn jn 0) (fun s => d.past.length - natOf (s.tm 13)) (IcdO d m n n1 sn jn 1) ?_ ?_ ?_
  · refine ⟨0, n1 + 1, .nil, [], by simp -dsimp, by simp -dsimp, by simp -dsimp, by simp -dsimp, by simp -dsimp, by simp -dsimp, by omega, (by simp -dsimp <;> omega), by simp -dsimp [g1, k1], by simp -dsimp, hrow.keep (fun j j1 j2 => by simp -dsimp [far j2]), Nat.le_refl _, (by simp -dsimp <;> omega), .inl ⟨rfl, rfl, rfl⟩, fun j j1 => ?_, by simp⟩
    have := hout1 j (by omega)
    simp -dsimp [far j1] at this
    simp -dsimp [far (show j < n1 by omega), this]
  · rintro s ⟨i, b, P, ss, t2, t3, t11, t12, t13, hmu, hi, hq, m1', mq, hnow, hpl, hbn, hst, hout, hend⟩
    by_cases hlt : i < d.past.length
    case neg =>
      simp -dsimp [t12, t13, hlt]
      exact ⟨i, b, P, ss, by simp -dsimp [t2], by simp -dsimp [t3], by simp -dsimp [t11], by simp -dsimp [t12], by simp -dsimp [t13], by simp -dsimp [hmu], hi, by simp -dsimp; omega, by simp -dsimp [m1'], by simp -dsimp [mq], hnow, hpl, by simp -dsimp; omega, hst, fun j j1 => by simp -dsimp [hout j j1], fun _ => by omega⟩
    have hget : (d.past.map Place.v)[i]? = some (d.past[i].v) := by simp [hlt]
    have wi : IntKind.wrap .i64 ((i : Int) + 1) = ((i + 1 : Nat) : Int) := by rw [w64 (by omega) (by omega)]; omega
    have hmu1 : d.past.length - (i + 1) < d.past.length - i := by omega
    have p0 := far (show n1 < s.n by omega)
    have p1 := far (show n + 1 < s.n by omega)
    have p3 := far (show n < s.n by omega)
    have q0 : ¬ n + 1 = n1 := by omega
    have q1 : ¬ n1 = n + 1 := by omega
    have hmem := List.getElem_mem hlt
    have hcp := fun m n => copyPlace_deep d.past[i] (hd.2.2 _ hmem) (hp0 _ hmem) m n
    have b1 : (min i d.past.length + 1) * 32 ≤ 140737488355328 := by omega
    have b2 : (i + 1) * 32 ≤ 140737488355328 := by omega
    have htk : d.past.take (i + 1) = d.past.take i ++ [d.past[i]] := List.take_succ_eq_append_getElem hlt
    have hil : min i d.past.length = i := by omega
    have htl : (d.past.take i).length = i := by simp; omega
    have r5 := pcT_len (d.past.take i) ss hpl.len
    have r6 := hpl.cells
    rw [htl] at r5
    have hcq := hst.cell
    simp -dsimp [t11, t12, t13, hlt, hget]
    refine twp_draw (List.range 8) [s.n, n1] (List.replicate 8 [0, 1]) (List.replicate 7 [0, 1] ++ [[0]]) (by kernel_rfl) (by kernel_rfl) (by kernel_rfl) (by kernel_rfl) ?_
    simp -dsimp [List.range_succ, t3, mq, p0, p1, nes]
    refine callL_ (vs := [d.past[i].v]) (hcp _ _) (by simp -dsimp) ?_
    rintro t m2 n2 ⟨hn2, hout2, st, js, rfl, hrow2⟩
    have u0 := hout2 n1 (by omega)
    have u1 := hout2 (n + 1) (by omega)
    have u2 := hout2 s.n (by omega)
    have v0 := far (show n1 < n2 by omega)
    have v1 := far (show n + 1 < n2 by omega)
    have v2 := far (show s.n < n2 by omega)
    have hc2 := hrow2.cell
    have hcs2 := hrow2.cells
    simp -dsimp [p0, p1, mq] at u0 u1 u2
    rcases hst with ⟨rfl, hs0, hs1⟩ | ⟨r, ex, rfl, hi0, hi1, hex, him'⟩
    · have hi00 : i = 0 := by
        simp at hs0; rcases hs0 with h | h
        · exact h
        · rw [h] at hlt; simp at hlt
      subst hi00
      simp -dsimp [List.range_succ, t3, t13, mq, u0, u1, u2, v0, v1, v2, hc2, hcs2, p0, p1, nes, hmu, wi, hmu1, q0, q1]
      refine ⟨?_, by rw [w64 (by omega) (by omega)]; omega⟩
      have w1 : IntKind.wrap .i64 (1 : Int) = 1 := by rw [w64 (by omega) (by omega)]
      refine st_out (I := IcdO d m n n1 sn jn 0) fun s' ht hm' hn' hu' => ?_
      have a2 := ht 2
      have a3 := ht 3
      have a11 := ht 11
      have a12 := ht 12
      have a13 := ht 13
      simp -dsimp [t2, t3, t11, t12, wi, w1] at a2 a3 a11 a12 a13 hm' hn' hu'
      clear ht
      have hjk : ∀ j, j < s.n → ¬ j = n1 → s'.m j = s.m j := fun j j1 j2 => by
        have q3 := hout2 j (by omega)
        simp [show ¬ j = s.n by omega] at q3
        simp [hm', show ¬ j = n2 by omega, show ¬ j = n2 + 1 by omega, j2, q3]
      have ht1 : d.past.take 1 = [d.past[0]] := by rw [show (1 : Nat) = 0 + 1 from rfl, htk]; rfl
      rw [hs1] at hpl
      have hle := hpl.le
      refine ⟨1, n2, .sv (n2 + 1) 0 1, [st], a2, a3, a11, a12, a13, by rw [hu', hmu], by omega, by omega, ?_, ?_, hnow.keep fun j j1 j2 => hjk j (by omega) (by omega), ?_, by omega, ?_, fun j j1 => ?_, by simp⟩
      · rw [hjk _ (by omega) (by omega), m1']
      · simp [hm']
      · rw [ht1]
        exact ⟨n2, js, by omega, hrow2.wide (by omega) (Nat.le_refl _) fun j j1 j2 => by simp [hm', show ¬ j = n2 by omega, show ¬ j = n2 + 1 by omega, show ¬ j = n1 by omega], Nat.le_refl _⟩
      · rw [ht1]
        exact .inr ⟨n2 + 1, [], rfl, by omega, by omega, rfl, by simp [hm', show ¬ n2 + 1 = n1 by omega]⟩
      · rw [hjk j (by omega) (by omega), hout j j1]
    · have g1' := far (show r < n2 by omega)
      have g2 : ¬ r = n1 := by have := hpl.le; omega
      have g3 : ¬ r = n + 1 := by have := hpl.le; omega
      have u3 := hout2 r (by omega)
      simp -dsimp [far hi1, him'] at u3
      simp -dsimp [List.range_succ, t3, t13, mq, u0, u1, u2, u3, v0, v1, v2, hc2, hcs2, p0, p1, nes, hmu, wi, hmu1, q0, q1, g1', g2, Ne.symm g2, b1, b2, hil, htl, r5, r6]
      refine ⟨by omega, ?_⟩
      refine st_out (I := IcdO d m n n1 sn jn 0) fun s' ht hm' hn' hu' => ?_
      have a2 := ht 2
      have a3 := ht 3
      have a11 := ht 11
      have a12 := ht 12
      have a13 := ht 13
      simp -dsimp [t2, t3, t11, t12, wi] at a2 a3 a11 a12 a13 hm' hn' hu'
      clear ht
      have hjk : ∀ j, j < s.n → ¬ j = n1 → ¬ j = r → s'.m j = s.m j := fun j j1 j2 j3 => by
        have q3 := hout2 j (by omega)
        simp [show ¬ j = s.n by omega] at q3
        simp [hm', show ¬ j = n2 by omega, show ¬ j = n2 + 1 by omega, j2, j3, q3]
      have hle := hpl.le
      have hsl := hpl.len
      refine ⟨i + 1, n2, .sv (n2 + 1) 0 (i + 1), ss ++ [st], a2, a3, a11, a12, by rw [a13]; simp, by rw [hu', hmu], by omega, by omega, ?_, ?_, hnow.keep fun j j1 j2 => hjk j (by omega) (by omega) (by omega), ?_, by omega, ?_, fun j j1 => ?_, by simp⟩
      · rw [hjk _ (by omega) (by omega) (by omega), m1']
      · simp [hm']
      · rw [htk]
        exact (hpl.keep fun j j1 j2 => hjk j (by omega) (by omega) (by omega)).snoc (a := s.n + 1 + 1) (by omega) (by omega) (hrow2.keep fun j j1 j2 => by simp [hm', show ¬ j = n2 by omega, show ¬ j = n2 + 1 by omega, show ¬ j = n1 by omega, show ¬ j = r by omega])
      · rw [htk]
        exact .inr ⟨n2 + 1, [], by simp; omega, by omega, by omega, rfl, by rw [pcT_app _ _ _ _ hsl]; simp [hm', show ¬ n2 + 1 = n1 by omega]⟩
      · rw [hjk j (by omega) (by omega) (by omega), hout j j1]
  · rintro s ⟨i, b, P, ss, t2, t3, t11, t12, t13, hmu, hi, hq, m1', mq, hnow, hpl, hbn, hst, hout, hend⟩
    have := hend rfl
    subst this
    rw [List.take_length] at hpl hst
    have hcq := hst.cell
    have hcs2 := hst.cells
    simp -dsimp [t2, t3, mq, m1', nes, hc, hcs, hcq, hcs2, e0, e5]
    have hle := hpl.le
    have hk : ∀ j, ¬ j = n + 1 → updM s.m (n + 1) (some (.box 37 3 [.v (.int .i64 d.now.people), sn, P])) j = s.m j := fun j j1 => by simp [j1]
    refine ⟨by omega, fun j j1 => by rw [hk j (by omega), hout j j1], sn, P, jn, ss, n1 + 1, b, rfl, hnow.wide (by omega) (by omega) fun j j1 j2 => hk j (by omega), by omega, hpl.keep fun j j1 j2 => hk j (by omega), by omega, ?_⟩
    rcases hst with h | ⟨id, ex, h1, h2, h3, h5, h4⟩
    · exact .inl h
    · exact .inr ⟨id, ex, h1, h2, by omega, h5, by rw [hk id (by omega), h4]⟩
end TL

/- Places made for the laws in memory of the caller's own; marked and held desks. -/
set_option linter.unusedSimpArgs false
set_option linter.unusedVariables false
set_option maxRecDepth 100000
set_option maxHeartbeats 4000000
set_option pp.maxSteps 1500
namespace TL
open Go Go.Proofs
attribute [local simp] marksV storyV codeV Claim.v Place.v Desk.v
def zc (k : Nat) : List T := (List.replicate k [T.v (.int .i64 0), T.nil]).flatten
theorem zc_succ (k : Nat) : zc (k + 1) = .v (.int .i64 0) :: .nil :: zc k := rfl
theorem zc_len (k : Nat) : (zc k).length = k * 2 := by
  induction k with
  | zero => rfl
  | succ k ih => rw [zc_succ]; simp [ih]; omega
theorem cell_set2 (A : List T) (x y x' y' : T) (B : List T) (i : Nat) (h : A.length = i) : ((A ++ x :: y :: B).set i x').set (i + 1) y' = A ++ x' :: y' :: B := by
  rw [cell_set A x x' (y :: B) i h]
  have e : A ++ x' :: y :: B = (A ++ [x']) ++ y :: B := by simp
  rw [e, cell_set (A ++ [x']) y y' B (i + 1) (by simp [h])]
  simp
def ItcO (l : List Claim) (m : Mem) (n : Nat) (a : Nat) (s : S) : Prop := ∃ (i : Nat) (js : List Nat), s.tm 0 = .v (.sl (l.map Claim.v)) ∧ s.tm 3 = .sv n 0 l.length ∧ s.tm 4 = .v (.int .i64 i) ∧ i ≤ l.length ∧ n < s.n ∧ s.m n = some (.box 74 2 (clT (l.take i) js ++ zc (l.length - i))) ∧
  (∀ j ∈ js, n < j ∧ j < s.n) ∧ js.Nodup ∧ Says s.m (l.take i) js ∧ (∀ j, j < n → s.m j = m j) ∧ (a = 1 → i = l.length)
theorem toClaimS_own (l : List Claim) (hl : l.length ≤ 1048576) (hs : ∀ a ∈ l, a.small) (m : Mem) (n : Nat) : FnS Tryz.prog 67 m n [.v (.sl (l.map Claim.v))] (fun t m' n' => n ≤ n' ∧ (∀ j, j < n → m' j = m j) ∧ ∃ js, OwnRowC m' n n' t l js) := by
  have b1 : (32 : Int) * l.length ≤ 281474976710656 := by omega
  have b2 : (l.length : Int) ≤ 9223372036854775807 := by omega
  have b3 : (0 : Int) ≤ l.length := by omega
  refine FnS_of (rs := [.tmp 2]) true Tryz.func67 rfl rfl rfl rfl (Nat.le_of_ble_eq_true rfl) ?_
  simp -dsimp [b1, b2, b3]
  refine twp_loopC (ItcO l m n 0) (fun s => l.length - natOf (s.tm 4)) (ItcO l m n 1) ?_ ?_ ?_
  · exact ⟨0, [], by simp -dsimp, by simp -dsimp, by simp -dsimp, by omega, by simp -dsimp <;> omega, by simp -dsimp [zc], by simp, List.nodup_nil, trivial, fun j j1 => by simp -dsimp [far j1], by simp⟩
  · rintro s ⟨i, js, h0, h3, h4, hi, hn, hm, hjs, hnd, hsy, hout, hend⟩
    by_cases hlt : i < l.length
    case neg =>
      simp -dsimp [h0, h4, hlt]
      exact ⟨i, js, by simp -dsimp [h0], by simp -dsimp [h3], by simp -dsimp [h4], hi, by simp -dsimp; omega, by simp -dsimp [hm], fun j hj => by have := hjs j hj; simp -dsimp; omega, hnd, hsy, fun j j1 => by simp -dsimp [hout j j1], fun _ => by omega⟩
    have hget : (l.map Claim.v)[i]? = some (l[i].v) := by simp [hlt]
    have wi : IntKind.wrap .i64 ((i : Int) + 1) = ((i + 1 : Nat) : Int) := by rw [w64 (by omega) (by omega)]; omega
    have hmu : l.length - (i + 1) < l.length - i := by omega
    have hlt' : (i : Int) < l.length := by omega
    have htk : l.take (i + 1) = l.take i ++ [l[i]] := List.take_succ_eq_append_getElem hlt
    have htl : (l.take i).length = i := by simp; omega
    have r5 := clT_len (l.take i) js hsy.len
    rw [htl] at r5
    have ezc : l.length - i = (l.length - (i + 1)) + 1 := by omega
    rw [ezc, zc_succ] at hm
    have zl := zc_len (l.length - (i + 1))
    have hown := fun m n => toClaim_own l[i] (hs _ (List.getElem_mem hlt)) m n
    generalize hc : l[i] = c at *
    have hset := fun id2 => cell_set2 (clT (l.take i) js) (.v (.int .i64 0)) .nil (.v (.int .i64 c.who)) (.sv id2 0 c.says.length) (zc (l.length - (i + 1))) (i * 2) r5
    have hll : (clT (l.take i) js ++ T.v (.int .i64 0) :: T.nil :: zc (l.length - (i + 1))).length = l.length * 2 := by simp [r5, zl]; omega
    have hoff : i * 2 + 2 ≤ l.length * 2 := by omega
    have f1 := far hn
    generalize hcells : clT (l.take i) js ++ T.v (.int .i64 0) :: T.nil :: zc (l.length - (i + 1)) = cells at *
    obtain ⟨c1, c2⟩ := c
    simp -dsimp [h0, h3, h4, hlt, hget, hc]
    refine callL_ (vs := [(⟨c1, c2⟩ : Claim).v]) (hown _ _) (by simp -dsimp) ?_
    rintro t m2 n2 ⟨hn2, hout2, st, rfl, id2, rfl, i0, i1, him2⟩
    have k1 := hout2 n (by omega)
    have g1 := far (show n < n2 by omega)
    have hset2 := hset id2
    simp -dsimp [f1, hm] at k1
    simp only at hset2
    simp -dsimp [h0, h3, h4, hlt', k1, hll, hoff, setAt, hset2, wi, hmu, nes]
    refine st_out fun s' ht hm' hn' hu' => ?_
    have a0 := ht 0
    have a3 := ht 3
    have a4 := ht 4
    simp -dsimp [h0, h3, wi] at a0 a3 a4 hm' hn' hu'
    clear ht
    have hjk : ∀ j ∈ js, s'.m j = s.m j := fun j hj => by
      have q1 := hjs j hj
      have q3 := hout2 j (by omega)
      simp [hm', show ¬ j = n by omega, q3]
    have hsl : (l.take i).length = js.length := hsy.len
    refine ⟨i + 1, js ++ [id2], a0, a3, a4, by omega, by omega, ?_, fun j hj => ?_, ?_, ?_, fun j j1 => ?_, by simp⟩
    · rw [htk, clT_app _ _ _ _ hsl]
      simp [hm']
    · rcases List.mem_append.1 hj with hj | hj
      · have := hjs j hj; omega
      · rw [List.mem_singleton.1 hj]; omega
    · rw [List.nodup_append]
      refine ⟨hnd, by simp, fun y hy z hz => ?_⟩
      rw [List.mem_singleton.1 hz]
      have := hjs y hy
      omega
    · rw [htk]
      exact (Says.app hsl).2 ⟨hsy.keep hjk, ⟨by simp [hm', show ¬ id2 = n by omega, him2], trivial⟩⟩
    · have q3 := hout2 j (by omega)
      simp [hm', show ¬ j = n by omega, q3, hout j j1]
  · rintro s ⟨i, js, h0, h3, h4, hi, hn, hm, hjs, hnd, hsy, hout, hend⟩
    have := hend rfl
    subst this
    rw [Nat.sub_self, List.take_length] at hm
    rw [List.take_length] at hsy
    have e : clT l js ++ zc 0 = clT l js := by simp [zc]
    rw [e] at hm
    simp -dsimp [h3]
    exact ⟨by omega, hout, js, fun j hj => by have := hjs j hj; omega, hnd, hsy, .inr ⟨n, rfl, Nat.le_refl _, by omega, fun hj => by have := hjs n hj; omega, hm⟩⟩
theorem toPlace_own (p : Place) (hp : p.small) (m : Mem) (n : Nat) : FnS Tryz.prog 32 m n [.v p.v] (DeepP p m n) := by
  refine FnS_of (rs := [.cell 2 34]) true Tryz.func32 rfl rfl rfl rfl (Nat.le_of_ble_eq_true rfl) ?_
  have e0 : ¬ n = n + 1 := by omega
  have e5 : ¬ n + 1 = n := by omega
  simp -dsimp [nes, e0, e5]
  refine callS_ (toClaimS_own p.story hp.1 hp.2 _ _) ?_
  rintro t m1 n1 ⟨hn1, hout, js, hrow⟩
  have k0 := hout n (by omega)
  have k1 := hout (n + 1) (by omega)
  have k2 := hout (n + 1 + 1) (by omega)
  simp -dsimp [nes, e0, e5] at k0 k1 k2
  have hc := hrow.cell
  have hcs := hrow.cells
  have ho : ∀ j, j < n → m1 j = m j := fun j j1 => by have hj := hout j (by omega); simp [far j1] at hj; exact hj
  simp -dsimp [nes, e0, e5, k0, k1, k2, hc, hcs]
  refine ⟨by omega, fun j j1 => ?_, t, js, rfl, hrow.wide (by omega) (by omega) fun j j1 j2 => by simp [show ¬ j = n + 1 by omega, show ¬ j = n + 1 + 1 by omega]⟩
  simp [show ¬ j = n + 1 by omega, show ¬ j = n + 1 + 1 by omega, ho j j1]
theorem markPlaceS_nil (m : Mem) (n : Nat) (k : Int) : FnS Tryz.prog 46 m n [.nil, .v (.int .i64 k)] (fun t m' n' => t = .v (.int .i64 k) ∧ n ≤ n' ∧ m' = m) := by
  refine FnS_of (rs := [.tmp 4]) false Tryz.func46 rfl rfl rfl rfl (Nat.le_of_ble_eq_true rfl) ?_
  simp -dsimp
  refine twp_loopC (fun s => s.tm 0 = .nil ∧ s.tm 1 = .v (.int .i64 k) ∧ s.tm 5 = .v (.int .i64 0) ∧ s.m = m ∧ n ≤ s.n) (fun s => 0) (fun s => s.tm 1 = .v (.int .i64 k) ∧ s.m = m ∧ n ≤ s.n) ?_ ?_ ?_
  · simp -dsimp
  · rintro s ⟨t0, t1, t5, hm, hn⟩
    simp -dsimp [t0, t1, t5, hm, hn]
  · rintro s ⟨t1, hm, hn⟩
    simp -dsimp [t1, hm, hn]
theorem markDesk_own (p : Place) (k : Int) (hk0 : 0 ≤ k) (hk : mkn k p.story ≤ 100000000000000) (hl : ∀ c ∈ p.story, c.says.length ≤ 1000000000) (m : Mem) (lo hi n : Nat) (hlo : hi ≤ n) (st : T) (js : List Nat) (h : OwnRowC m lo hi st p.story js) :
    FnS Tryz.prog 13 m n [.agg [.v (.int .i64 p.people), st, .nil], .v (.int .i64 k)] (fun t m' n' => t = .v (.int .i64 (mkn k p.story)) ∧ n ≤ n' ∧ OwnRowC m' lo hi st (mkc k p.story) js ∧ ∀ j, j < n → j < lo ∨ hi ≤ j → m' j = m j) := by
  have hc := h.cell
  have hcs := h.cells
  refine FnS_of (rs := [.tmp 4]) false Tryz.func13 rfl rfl rfl rfl (Nat.le_of_ble_eq_true rfl) ?_
  simp -dsimp [nes, hc, hcs]
  refine callS_ (markPlace_own p k hk0 hk hl _ lo hi _ (by omega) st js (h.keep fun j j1 j2 => by simp [show ¬ j = n by omega])) ?_
  rintro t m1 n1 ⟨rfl, hn1, hrow, hout⟩
  have k0 := hout n (by omega) (.inr hlo)
  simp -dsimp at k0
  simp -dsimp [nes, hc, hcs, k0]
  refine callS_ (markPlaceS_nil _ _ _) ?_
  rintro t m2 n2 ⟨rfl, hn2, rfl⟩
  simp -dsimp
  refine ⟨by omega, hrow, fun j j1 j2 => ?_⟩
  rw [hout j (by omega) j2]; simp [show ¬ j = n by omega]
theorem heldDesk_fn (q : Int) (l : List Claim) (k : Int) (hk0 : 0 ≤ k) (hk : mkn k l ≤ 100000000000000) (hl : ∀ c ∈ l, c.says.length ≤ 1000000000) : FnZ Tryz.prog 14 [(⟨⟨q, mkc k l⟩, []⟩ : Desk).v, .int .i64 k] (.int .i64 (mkn k l)) := by
  have h := heldPlace_fn q l k hk0 hk hl
  have hge := mkn_ge l k
  have h0 : ¬ mkn k l < 0 := by omega
  generalize mkn k l = y at *
  have hp : FnZ Tryz.prog 48 [.sl [], .int .i64 y] (.int .i64 y) := by
    refine FnZ_of (rs := [.tmp 4]) false Tryz.func48 rfl rfl rfl rfl (Nat.le_of_ble_eq_true rfl) ?_
    simp -dsimp
    refine twp_loopC (fun s => s.tm 0 = .v (.sl []) ∧ s.tm 1 = .v (.int .i64 y) ∧ s.tm 5 = .v (.int .i64 0)) (fun s => 0) (fun s => s.tm 1 = .v (.int .i64 y)) ?_ ?_ ?_
    · simp -dsimp
    · rintro s ⟨t0, t1, t5⟩
      simp -dsimp [t0, t1, t5]
    · rintro s t1
      simp -dsimp [t1]
  refine FnZ_of (rs := [.tmp 4]) false Tryz.func14 rfl rfl rfl rfl (Nat.le_of_ble_eq_true rfl) ?_
  simp -dsimp
  refine call_ h (by simp -dsimp) ?_
  simp -dsimp [h0]
  refine call_ hp (by simp -dsimp) ?_
  simp -dsimp [h0]
/-! What names nothing but its own memory. -/
theorem mkT_fl (l : List Mark) : flT (mkT l) = true := by
  induction l with
  | nil => rfl
  | cons x xs ih => simp [mkT, ih, V.flat]
theorem clT_fl : ∀ (l : List Claim) (js : List Nat), flT (clT l js) = true
  | [], js => by simp
  | c :: l, [] => by simp [clT]
  | c :: l, j :: js => by simp [clT_fl l js, V.flat]
theorem OwnRowC.fl {m : Mem} {lo hi : Nat} {st : T} {l : List Claim} {js : List Nat} (h : OwnRowC m lo hi st l js) : st.fl = true := by
  rcases h.2.2.2 with ⟨rfl, _⟩ | ⟨id, rfl, _⟩ <;> rfl
theorem Says.at {m : Mem} : ∀ {l : List Claim} {js : List Nat}, Says m l js → ∀ j ∈ js, ∃ x : List Mark, m j = some (.box 126 2 (mkT x))
  | [], [], _, j, hj => by simp at hj
  | c :: l, k :: js, h, j, hj => by
    rcases List.mem_cons.1 hj with rfl | hj
    · exact ⟨_, h.1⟩
    · exact h.2.at j hj
  | [], j :: js, h, _, _ => h.elim
  | c :: l, [], h, _, _ => h.elim
/-- The part of memory that a row of claims names. -/
theorem OwnRowC.part {m : Mem} {lo hi : Nat} {st : T} {l : List Claim} {js : List Nat} (h : OwnRowC m lo hi st l js) : ∃ m2 : Mem, LeM m2 m ∧ (∀ i b, m2 i = some b → lo ≤ i ∧ b.fl = true) ∧ OwnRowC m2 lo hi st l js := by
  obtain ⟨h1, h2, h3, h4⟩ := h
  rcases h4 with ⟨rfl, rfl, rfl⟩ | ⟨id, rfl, i0, i1, i2, i3⟩
  · exact ⟨fun _ => none, fun i b hb => (by cases hb), fun i b hb => (by cases hb), by simp, List.nodup_nil, trivial, .inl ⟨rfl, rfl, rfl⟩⟩
  · refine ⟨fun j => if j = id ∨ j ∈ js then m j else none, fun i b hb => ?_, fun i b hb => ?_, h1, h2, h3.keep fun j hj => by simp [hj], .inr ⟨id, rfl, i0, i1, i2, by simp [i3]⟩⟩
    · by_cases hi : i = id ∨ i ∈ js
      · simp only [if_pos hi] at hb; exact hb
      · simp only [if_neg hi] at hb; cases hb
    · by_cases hi : i = id ∨ i ∈ js
      · simp only [if_pos hi] at hb
        rcases hi with rfl | hi
        · rw [i3] at hb; cases hb; exact ⟨i0, clT_fl _ _⟩
        · obtain ⟨x, hx⟩ := h3.at i hi
          rw [hx] at hb; cases hb; exact ⟨(h1 i hi).1, mkT_fl _⟩
      · simp only [if_neg hi] at hb; cases hb
end TL

/- TL, part 26: a call whose arguments are lent and whose result is the caller's own; the contract is that of a frame with nothing in it. -/
set_option linter.unusedVariables false
set_option linter.unusedSimpArgs false
namespace TL
open Go Go.RowKit
variable {P : Program}
mutual
/-- The handles of a value, moved up. -/
def T.up (k : Nat) : T → T
  | .sv i co len => .sv (i + k) co len
  | .ptr i j => .ptr (i + k) j
  | .agg cs => .agg (upT k cs)
  | .tup cs => .tup (upT k cs)
  | .v x => .v x
  | .nil => .nil
  | x => x
def upT (k : Nat) : List T → List T
  | [] => []
  | x :: xs => x.up k :: upT k xs
end
@[simp] theorem upT_nil (k : Nat) : upT k [] = [] := rfl
@[simp] theorem upT_cons (k : Nat) (x : T) (xs : List T) : upT k (x :: xs) = x.up k :: upT k xs := rfl
@[simp] theorem up_v (k : Nat) (x : V) : (T.v x).up k = .v x := rfl
@[simp] theorem up_nil (k : Nat) : T.nil.up k = .nil := rfl
@[simp] theorem up_sv (k i j l : Nat) : (T.sv i j l).up k = .sv (i + k) j l := rfl
@[simp] theorem up_ptr (k i j : Nat) : (T.ptr i j).up k = .ptr (i + k) j := rfl
@[simp] theorem up_agg (k : Nat) (cs : List T) : (T.agg cs).up k = .agg (upT k cs) := rfl
@[simp] theorem up_tup (k : Nat) (cs : List T) : (T.tup cs).up k = .tup (upT k cs) := rfl
theorem upT_append (k : Nat) (a b : List T) : upT k (a ++ b) = upT k a ++ upT k b := by
  induction a with
  | nil => rfl
  | cons x xs ih => simp [ih]
@[simp] theorem upT_length (k : Nat) (a : List T) : (upT k a).length = a.length := by
  induction a with
  | nil => rfl
  | cons x xs ih => simp [ih]
def Blk.up (k : Nat) : Blk → Blk
  | .box e z cs => .box e z (upT k cs)
  | b => b
@[simp] theorem up_box (k : Nat) (e : TypeId) (z : Nat) (cs : List T) : (Blk.box e z cs).up k = .box e z (upT k cs) := rfl
theorem up_cell (k : Nat) (x : T) : (x.up k).cell = x.cell := by cases x <;> simp only [T.up, T.cell]
theorem upT_allC (k : Nat) {cs : List T} (h : allC cs) : allC (upT k cs) := by
  induction cs with
  | nil => exact h
  | cons x xs ih =>
    intro y hy
    simp only [upT_cons, List.mem_cons] at hy
    rcases hy with rfl | hy
    · rw [up_cell]; exact h x (by simp)
    · exact ih (fun z hz => h z (by simp [hz])) y hy
def catM (n : Nat) (m m' : Mem) : Mem := fun i => if i < n then m i else (m' (i - n)).map (Blk.up n)
theorem catM_lo {n j : Nat} {m m' : Mem} (h : j < n) : catM n m m' j = m j := if_pos h
theorem catM_hi {n j : Nat} {m m' : Mem} {b : Blk} (h : m' j = some b) : catM n m m' (j + n) = some (b.up n) := by
  unfold catM
  rw [if_neg (by omega), Nat.add_sub_cancel, h]; rfl
section
variable {φ φ2 : Phi} {Z Z' : Zs} {w w' : World} {k : Nat}
mutual
theorem fl_up {x : T} {u : Value} (he : ∀ i u, φ i = some u → φ2 (i + k) = some u) (h : x.fl = true) : RepT φ Z w x u → RepT φ2 Z' w' (x.up k) u
  | .v g => .v (flat_rep h g)
  | .nil => .nil
  | .sv g hl hm ha h0 => .sv (he _ _ g) hl hm ha h0
  | .ptr g => .ptr (he _ _ g)
  | .ptrs g => .ptrs (he _ _ g)
  | .agg g => .agg (flT_up he (by simpa using h) g)
  | .tup g => .tup (flT_up he (by simpa using h) g)
theorem flT_up {x : List T} {u : List Value} (he : ∀ i u, φ i = some u → φ2 (i + k) = some u) (h : flT x = true) : RepTs φ Z w x u → RepTs φ2 Z' w' (upT k x) u
  | .nil => .nil
  | .cons g t => .cons (fl_up he (by simp at h; exact h.1) g) (flT_up he (by simp at h; exact h.2) t)
end
end
theorem FnS.ownUp {f : Nat} {m : Mem} {n : Nat} {args : List T} {vs : List V} {post Q : T → Mem → Nat → Prop} (h : FnS P f (fun _ => none) 0 (vs.map .v) post) (ha : mapO (bor true m 4) args = some vs)
    (hp : ∀ t m' n', post t m' n' → ∃ m2, LeM m2 m' ∧ t.fl = true ∧ (∀ i b, m2 i = some b → b.fl = true) ∧ Q t m2 n') :
    FnS P f m n args (fun t mm n' => ∃ t' m' n'', Q t' m' n'' ∧ t = t'.up n ∧ mm = catM n m m' ∧ n' = n + n'') := by
  refine ⟨h.1, fun φ Z w us hm hr => ?_⟩
  let Zb : Zs := fun k o => Z k o ∨ Owned φ m k
  have hZ : SubZ Z Zb := fun k o h => .inl h
  have hvs := bors_sound hm (k := true) (Zb := Zb) hZ (fun _ g hg o => .inr hg) args us vs hr ha
  have no : ∀ k, ¬ Owned (fun _ => none) (fun _ => none) k := fun k ⟨i, b, v, h1, _⟩ => by cases h1
  have hm0 : RelM P (fun _ => none) Zb (fun _ => none) 0 w := by
    refine ⟨fun i u h => (by cases h), fun i _ => rfl, fun i b hb => (by cases hb), fun i j a b u v k h1 => (by cases h1), ⟨fun k o hz => ?_, hm.zlt.gl.keep hZ fun _ _ _ => rfl⟩⟩
    rcases hz with hz | hz
    · exact hm.zlt.lt k o hz
    · exact hm.owned_lt hz
  refine (h.2 (fun _ => none) Zb w us hm0 hvs.toTs).mono fun e w' hh => ?_
  obtain ⟨v, φ', Z', m1, n', t, rfl, h1, h2, h3, h4⟩ := hh
  obtain ⟨m', hle, ht, hb, h4⟩ := hp t m1 n' h4
  have h1 := h1.le hle
  let φ2 : Phi := fun i => if i < n then φ i else φ' (i - n)
  have plo : ∀ i, i < n → φ2 i = φ i := fun i hi => if_pos hi
  have phi : ∀ i, ¬ i < n → φ2 i = φ' (i - n) := fun i hi => if_neg hi
  have up : ∀ i u, φ' i = some u → φ2 (i + n) = some u := fun i u hu => by rw [phi _ (by omega), Nat.add_sub_cancel]; exact hu
  have ext : Ext φ φ2 := fun i u hu => by
    rcases Nat.lt_or_ge i n with h | h
    · rw [plo i h]; exact hu
    · rw [hm.fresh i h] at hu; cases hu
  have lift : ∀ k, Owned φ' m' k → Owned φ' m1 k := fun k ⟨i, b, v, c1, c2⟩ => ⟨i, b, v, hle _ _ c1, c2⟩
  have new : ∀ (i : Nat) (b : Blk) (v : Value) (k : Nat), m' i = some b → isRo b = false → φ' i = some v → blkOf v = some k → w.heap.size ≤ k := fun i b v k h5 h6 h7 h8 => by
    rcases Nat.lt_or_ge k w.heap.size with h | h
    · exact absurd (h3.own k h (lift k ⟨i, b, v, h5, h6, h7, h8⟩)) (no k)
    · exact h
  have kz : KeepZ Z w w' := fun k o hz => h3.keep k o (.inl hz)
  have hro : ∀ b : Blk, isRo (b.up n) = isRo b := fun b => by cases b <;> rfl
  have hcat : ∀ i b, catM n m m' i = some b → (i < n ∧ m i = some b ∧ φ2 i = φ i) ∨ (¬ i < n ∧ φ2 i = φ' (i - n) ∧ ∃ b0, m' (i - n) = some b0 ∧ b = b0.up n) := fun i b hi => by
    unfold catM at hi
    split at hi
    · rename_i hn; exact .inl ⟨hn, hi, plo i hn⟩
    · rename_i hn
      cases e : m' (i - n) with
      | none => rw [e] at hi; cases hi
      | some b0 => rw [e] at hi; cases hi; exact .inr ⟨hn, phi i hn, b0, rfl, rfl⟩
  refine ⟨v, φ2, Z, catM n m m', n + n', t.up n, rfl, ⟨fun i u hu => ?_, fun i hi => ?_, fun i b hi => ?_, fun i j a b u v k hi hj hu hv hku hkv ra rb => ?_, ⟨fun k o hz => Nat.lt_of_lt_of_le (hm.zlt.lt k o hz) h3.size, hm.zlt.gl.keep (fun _ _ h => h) kz⟩⟩, fl_up up ht h2,
    ⟨ext, fun k o hz => hz, kz, h3.os, h3.tape, h3.output, h3.size, fun k hk ho => h3.out k hk (no k), fun k hk ho => ?_, fun k o hz => .inl hz⟩, t, m', n', h4, rfl, rfl, rfl⟩
  · rcases Nat.lt_or_ge i n with h | h
    · rw [plo i h] at hu; exact hm.ok i u hu
    · rw [phi i (by omega)] at hu; exact h1.ok _ u hu
  · rw [phi i (by omega)]; exact h1.fresh _ (by omega)
  · rcases hcat i b hi with ⟨c1, c2, c3⟩ | ⟨c1, c2, b0, c3, rfl⟩
    · obtain ⟨v, h5, h6⟩ := hm.blk i b c2
      refine ⟨v, ext _ _ h5, h6.keep ext (fun _ _ h => h) kz fun hro k hk => ⟨h3.out k (h6.lt hro hk) (no k), fun o ho => ho⟩⟩
    · obtain ⟨v, h5, h6⟩ := h1.blk _ b0 c3
      refine ⟨v, by rw [c2]; exact h5, ?_⟩
      have hf := hb _ b0 c3
      cases b0 with
      | ro xs => cases hf
      | arr e xs => cases hf
      | box e z cs =>
        obtain ⟨a1, a2, k, cur, a3, a4, a5, a6, a7, a8, a9⟩ := h6
        exact ⟨a1, a2, k, cur, a3, a4, by rw [upT_length]; exact a5, by rw [upT_length]; exact flT_up up hf a6, upT_allC n a7, fun o ho => a8 o (h3.sub k o (.inl ho)), a9⟩
  · rcases hcat i a hi with ⟨c1, c2, c3⟩ | ⟨c1, c2, b0, c3, rfl⟩ <;> rcases hcat j b hj with ⟨d1, d2, d3⟩ | ⟨d1, d2, e0, d3, rfl⟩
    · rw [c3] at hu; rw [d3] at hv
      exact hm.ne i j a b u v k c2 d2 hu hv hku hkv ra rb
    · rw [c3] at hu; rw [d2] at hv
      have l1 := hm.owned_lt ⟨i, a, u, c2, ra, hu, hku⟩
      have l2 := new _ e0 v k d3 (by rw [← hro]; exact rb) hv hkv
      omega
    · rw [c2] at hu; rw [d3] at hv
      have l1 := hm.owned_lt ⟨j, b, v, d2, rb, hv, hkv⟩
      have l2 := new _ b0 u k c3 (by rw [← hro]; exact ra) hu hku
      omega
    · rw [c2] at hu; rw [d2] at hv
      have := h1.ne _ _ b0 e0 u v k c3 d3 hu hv hku hkv (by rw [← hro]; exact ra) (by rw [← hro]; exact rb)
      omega
  · obtain ⟨i, b, v, h5, h6, h7, h8⟩ := ho
    rcases hcat i b h5 with ⟨c1, c2, c3⟩ | ⟨c1, c2, b0, c3, rfl⟩
    · rw [c3] at h7; exact ⟨i, b, v, c2, h6, h7, h8⟩
    · rw [c2] at h7
      have := new _ b0 v k c3 (by rw [← hro]; exact h6) h7 h8
      omega
theorem callU_ {f : Nat} {m : Mem} {n : Nat} {args : List T} {vs : List V} {k : T → Mem → Nat → Prop} {post Q : T → Mem → Nat → Prop} (h : FnS P f (fun _ => none) 0 (vs.map .v) post) (ha : mapO (bor true m 4) args = some vs)
    (hp : ∀ t m' n', post t m' n' → ∃ m2, LeM m2 m' ∧ t.fl = true ∧ (∀ i b, m2 i = some b → b.fl = true) ∧ Q t m2 n') (hk : ∀ t m' n', Q t m' n' → k (t.up n) (catM n m m') (n + n')) : callP P f m n args k :=
  callS_ (h.ownUp ha hp) fun t mm n' ⟨t', m', n'', h1, h2, h3, h4⟩ => by rw [h2, h3, h4]; exact hk t' m' n'' h1
end TL
