/- TL: parts FnsZ1, FnsZ2, TlRow, FnsZ12, FnsZ7, FnsZ8, FnsZ9, FnsZD, FnsZ15, FnsZ16, FnsZO1, FnsZO2, TlLend, FnsZM0, FnsZM1, FnsZT, FnsZR1, FnsZR2. -/
import Derived.Test.YtndfipgiaeeheaaGc
set_option linter.unusedSimpArgs false
set_option linter.unusedVariables false
set_option maxRecDepth 100000
namespace TL
open Go Go.Proofs
theorem peopleOk_fn (p : Int) : FnZ Try.prog 21 [.int .i64 p] (.bool (decide (1 ≤ p) && decide (p ≤ 4))) := by
  refine FnZ_of (rs := [.tmp 2]) false Try.func21 rfl rfl rfl rfl (Nat.le_of_ble_eq_true rfl) ?_
  simp -dsimp
  refine iteP_intro (fun h => ?_) (fun h => ?_) <;> simp -dsimp [h]
theorem w64 {x : Int} (h1 : -9223372036854775808 ≤ x) (h2 : x ≤ 9223372036854775807) : IntKind.wrap .i64 x = x := by rw [IntKind.wrap_i64]; omega
def codeV (bs : List UInt8) : V := .sl (bs.map fun b => .int .u8 b.toNat)
theorem codeZ (bs : List UInt8) : allZ 1 (bs.map fun b => V.int .u8 b.toNat) := by
  intro x hx; obtain ⟨b, _, rfl⟩ := List.mem_map.1 hx; simp [V.cells, V.cell]
/-- The reader of codes. -/
theorem open_fn (bs : List UInt8) (m : Mem) (n : Nat) : FnS Try.prog 9 m n [.v (.sl (bs.map fun b => .int .u8 b.toNat))] (fun t m' n' => t = .ptr n 0 ∧ n' = n + 1 ∧ m' = updM m n (some (.box 48 2 [.v (.sl ((bs.take 2000).map fun b => .int .u8 b.toNat)), .v (.int .i64 0)]))) := by
  refine FnS_of (rs := [.tmp 2]) false Try.func9 rfl rfl rfl rfl (Nat.le_of_ble_eq_true rfl) ?_
  simp -dsimp
  refine iteP_intro (fun h => ?_) (fun h => ?_)
  · simp -dsimp at h
    have h' : (2000 : Int) ≤ bs.length := by omega
    simp -dsimp [h']
  · simp -dsimp at h
    have : bs.take 2000 = bs := List.take_of_length_le (by omega)
    simp -dsimp [this]
/-- What the reader says. -/
def rdNum (bs : List UInt8) (p : Nat) (k : Int) : Int :=
  if k < 1 ∨ bs.length = 0 then 0
  else if p < bs.length then ((bs.getD p 0).toNat : Int) % k
  else 0
theorem tmod_range (a k : Int) (h0 : 0 ≤ a) (hk : 1 ≤ k) : 0 ≤ a.tmod k ∧ (1 ≤ k → a.tmod k < k) := by
  rw [Int.tmod_eq_emod_of_nonneg h0]
  exact ⟨Int.emod_nonneg _ (by omega), fun _ => Int.emod_lt_of_pos _ (by omega)⟩
theorem tmod_nat (a b : Nat) (hb : 0 < b) : ∃ q : Nat, q < b ∧ (a : Int).tmod b = q := ⟨a % b, Nat.mod_lt _ hb, by rw [Int.tmod_eq_emod_of_nonneg (by omega)]; rfl⟩
theorem tdiv_nat (a b : Nat) : ∃ q : Nat, q ≤ a ∧ (a : Int).tdiv b = q := ⟨a / b, Nat.div_le_self _ _, by rw [Int.tdiv_eq_ediv_of_nonneg (by omega)]; rfl⟩
theorem xor64 (a b k : Int) (ha : 0 ≤ a) (ha' : a < 4611686018427387904) (hb : 0 ≤ b) (hb' : b < 4611686018427387904) (hk : 1 ≤ k) :
    0 ≤ (IntKind.wrap .i64 (((a % 2 ^ IntKind.i64.bits).toNat ^^^ (b % 2 ^ IntKind.i64.bits).toNat : Nat) : Int)).tmod k ∧ (1 ≤ k → (IntKind.wrap .i64 (((a % 2 ^ IntKind.i64.bits).toNat ^^^ (b % 2 ^ IntKind.i64.bits).toNat : Nat) : Int)).tmod k < k) := by
  obtain ⟨a, rfl⟩ := Int.eq_ofNat_of_zero_le ha
  obtain ⟨b, rfl⟩ := Int.eq_ofNat_of_zero_le hb
  have h1 : a < 2 ^ 62 := by omega
  have h2 : b < 2 ^ 62 := by omega
  have h3 := Nat.xor_lt_two_pow h1 h2
  have e1 : ((a : Int) % 2 ^ IntKind.i64.bits).toNat = a := by simp only [IntKind.bits]; omega
  have e2 : ((b : Int) % 2 ^ IntKind.i64.bits).toNat = b := by simp only [IntKind.bits]; omega
  rw [e1, e2, w64 (by omega) (by omega)]
  exact tmod_range _ _ (by omega) hk
theorem pick_facts (p c1 c2 q3 : Nat) (hp : p < 1000000000) (h1 : c1 < 256) (h2 : c2 < 256) (h3 : q3 ≤ p) :
    (IntKind.wrap .i64 ((p : Int) * 7) = p * 7) ∧
    (IntKind.wrap .i64 ((p : Int) * 7 + 3) = p * 7 + 3) ∧
    (IntKind.wrap .i64 (c1 : Int) = c1) ∧
    (IntKind.wrap .i64 ((c1 : Int) * 131) = c1 * 131) ∧
    (IntKind.wrap .i64 (c2 : Int) = c2) ∧
    (IntKind.wrap .i64 ((c2 : Int) * 1117) = c2 * 1117) ∧
    (IntKind.wrap .i64 ((c1 : Int) * 131 + c2 * 1117) = c1 * 131 + c2 * 1117) ∧
    (IntKind.wrap .i64 ((p : Int) * 29) = p * 29) ∧
    (IntKind.wrap .i64 ((c1 : Int) * 131 + c2 * 1117 + p * 29) = c1 * 131 + c2 * 1117 + p * 29) ∧
    (IntKind.wrap .i64 (q3 : Int) = q3) ∧
    (IntKind.wrap .i64 ((q3 : Int) * 53) = q3 * 53) ∧
    (IntKind.wrap .i64 ((c1 : Int) * 131 + c2 * 1117 + p * 29 + q3 * 53) = c1 * 131 + c2 * 1117 + p * 29 + q3 * 53) := by
  refine ⟨w64 ?_ ?_, w64 ?_ ?_, w64 ?_ ?_, w64 ?_ ?_, w64 ?_ ?_, w64 ?_ ?_, w64 ?_ ?_, w64 ?_ ?_, w64 ?_ ?_, w64 ?_ ?_, w64 ?_ ?_, w64 ?_ ?_⟩ <;> omega
theorem pick_fn (bs : List UInt8) (p : Nat) (hp : p < 1000000000) (k : Int) (m : Mem) (n rid : Nat) (hm : m rid = some (.box 48 2 [.v (.sl (bs.map fun b => .int .u8 b.toNat)), .v (.int .i64 p)])) :
    FnS Try.prog 15 m n [.ptr rid 0, .v (.int .i64 k)] (fun t m' n' => n ≤ n' ∧ (∃ r : Int, t = .v (.int .i64 r) ∧ 0 ≤ r ∧ (1 ≤ k → r < k)) ∧ m' = updM m rid (some (.box 48 2 [.v (.sl (bs.map fun b => .int .u8 b.toNat)), .v (.int .i64 (p + 1))]))) := by
  have w1 : IntKind.wrap .i64 ((p : Int) + 1) = p + 1 := by rw [IntKind.wrap_i64]; omega
  have w2 : IntKind.wrap .i64 (p : Int) = p := by rw [IntKind.wrap_i64]; omega
  by_cases hk : k < 1
  · refine FnS_of (rs := [.tmp 4]) false Try.func15 rfl rfl rfl rfl (Nat.le_of_ble_eq_true rfl) ?_
    simp -dsimp [hm, w1, w2, hk]
    omega
  have k0 : ¬ k = 0 := by omega
  by_cases hb : bs = []
  · refine FnS_of (rs := [.tmp 4]) false Try.func15 rfl rfl rfl rfl (Nat.le_of_ble_eq_true rfl) ?_
    simp -dsimp [hm, w1, w2, hk, hb]
    omega
  have hpos : 0 < bs.length := List.length_pos_iff.2 hb
  by_cases hq : (p : Int) < bs.length
  · have hlt : p < bs.length := by omega
    have hget : bs[p]? = some bs[p] := List.getElem?_eq_getElem hlt
    have w3 : IntKind.wrap .i64 (bs[p].toNat : Int) = bs[p].toNat := by have := UInt8.toNat_lt bs[p]; rw [IntKind.wrap_i64]; omega
    have hp0 : (0 : Int) ≤ p := by omega
    refine FnS_of (rs := [.tmp 4]) false Try.func15 rfl rfl rfl rfl (Nat.le_of_ble_eq_true rfl) ?_
    simp -dsimp [hm, w1, w2, hk, hb, hq, hget, w3, k0, hlt]
    exact tmod_range _ _ (by omega) (by omega)
  have hlt : ¬ p < bs.length := by omega
  have b0 : ¬ (bs.length : Int) = 0 := by omega
  obtain ⟨q1, l1, hr⟩ := tmod_nat p bs.length hpos
  obtain ⟨q2, l2, hr2⟩ := tmod_nat (p * 7 + 3) bs.length hpos
  obtain ⟨q3, l3, hr3⟩ := tdiv_nat p bs.length
  have e7 : ((p * 7 + 3 : Nat) : Int) = (p : Int) * 7 + 3 := by omega
  have hr2' : ((p : Int) * 7 + 3).tmod bs.length = q2 := by rw [← e7]; exact hr2
  have g1 : bs[q1]? = some bs[q1] := List.getElem?_eq_getElem l1
  have g2 : bs[q2]? = some bs[q2] := List.getElem?_eq_getElem l2
  have u1 := UInt8.toNat_lt bs[q1]
  have u2 := UInt8.toNat_lt bs[q2]
  obtain ⟨v1, v2, v3, v4, v5, v6, v7, v8, v9, v10, v11, v12⟩ := pick_facts p _ _ q3 hp u1 u2 l3
  refine FnS_of (rs := [.tmp 4]) false Try.func15 rfl rfl rfl rfl (Nat.le_of_ble_eq_true rfl) ?_
  simp -dsimp [hm, w1, w2, hk, hb, hq, hlt]
  refine twp_draw (List.range 46) [rid] (List.replicate 46 [0]) (List.replicate 46 [0]) (by kernel_rfl) (by kernel_rfl) (by kernel_rfl) (by kernel_rfl) ?_
  simp -dsimp [hm, w1, w2, hk, hb, hq, hlt, k0, b0, hr, hr2', hr3, g1, g2, List.range_succ, l1, l2, v1, v2, v3, v4, v5, v6, v7, v8, v9, v10, v11, v12]
  have q64 : 0 ≤ ((bs[q1].toNat : Int) * 131 + bs[q2].toNat * 1117 + p * 29 + q3 * 53).tdiv 64 ∧ ((bs[q1].toNat : Int) * 131 + bs[q2].toNat * 1117 + p * 29 + q3 * 53).tdiv 64 < 4611686018427387904 := by
    rw [Int.tdiv_eq_ediv_of_nonneg (by omega)]; omega
  rw [w64 (x := Int.tdiv _ 64) (by omega) (by omega)]
  exact xor64 _ _ k (by omega) (by omega) q64.1 q64.2 (by omega)
end TL

/- Data of the program; the reader of codes. -/
set_option linter.unusedSimpArgs false
set_option linter.unusedVariables false
set_option maxRecDepth 100000
set_option maxHeartbeats 4000000
namespace TL
open Go Go.Proofs
structure Mark where
  kind : Int
  num : Int
  deriving DecidableEq
structure Claim where
  who : Int
  says : List Mark
  deriving DecidableEq
structure Place where
  people : Int
  story : List Claim
  deriving DecidableEq
/-- Numbers of the machine. -/
def fit (x : Int) : Prop := -9223372036854775808 ≤ x ∧ x < 9223372036854775808
def Mark.fit (m : Mark) : Prop := TL.fit m.kind ∧ TL.fit m.num
def fits (l : List Mark) : Prop := ∀ x ∈ l, x.fit
def Claim.fit (c : Claim) : Prop := TL.fit c.who ∧ fits c.says
def Place.fit (p : Place) : Prop := TL.fit p.people ∧ ∀ c ∈ p.story, c.fit
@[simp] theorem fits_nil : fits [] := by simp [fits]
@[simp] theorem fits_cons (x : Mark) (l : List Mark) : fits (x :: l) ↔ x.fit ∧ fits l := by simp [fits]
@[simp] theorem fits_append (a b : List Mark) : fits (a ++ b) ↔ fits a ∧ fits b := by simp [fits, or_imp, forall_and]
theorem fit_mk {k a : Int} (hk : 0 ≤ k) (hk' : k < 1000) (ha : 0 ≤ a) (ha' : a < 1000) : Mark.fit ⟨k, a⟩ := by
  refine ⟨⟨?_, ?_⟩, ⟨?_, ?_⟩⟩ <;> simp only <;> omega
def Mark.v (m : Mark) : V := .agg [.int .i64 m.kind, .int .i64 m.num]
@[simp] theorem mark_cells (m : Mark) : m.v.cells = [.int .i64 m.kind, .int .i64 m.num] := rfl
theorem drop_cons {α : Type} {l : List α} {i : Nat} (h : i < l.length) : l.drop i = l[i] :: l.drop (i + 1) := List.drop_eq_getElem_cons h
def marksV (l : List Mark) : V := .sl (l.map Mark.v)
def Claim.v (c : Claim) : V := .agg [.int .i64 c.who, marksV c.says]
def storyV (l : List Claim) : V := .sl (l.map Claim.v)
def Place.v (p : Place) : V := .agg [.int .i64 p.people, storyV p.story]
@[simp] theorem updM_idem (m : Mem) (d : Nat) (x y : Option Blk) : updM (updM m d x) d y = updM m d y := by
  funext t; simp only [updM_lit]; split <;> rfl
theorem updM_self {m : Mem} {d : Nat} {x : Option Blk} (h : m d = x) : updM m d x = m := by
  funext t; simp only [updM_lit]; split
  · rename_i e; rw [e, h]
  · rfl
/-- What a reader of codes is in memory. -/
abbrev rdB (bs : List UInt8) (p : Nat) : Blk := .box 48 2 [.v (.sl (bs.map fun b => .int .u8 b.toNat)), .v (.int .i64 p)]
/-- Behind at most K reads. -/
def RdTo (K : Nat) (m : Mem) (rid : Nat) (bs : List UInt8) (p : Nat) (m' : Mem) : Prop := ∃ p', p ≤ p' ∧ p' ≤ p + K ∧ m' = updM m rid (some (rdB bs p'))
theorem pick_at (bs : List UInt8) (p : Nat) (hp : p < 1000000000) (k : Int) (m : Mem) (n rid : Nat) (hm : m rid = some (rdB bs p)) :
    FnS Try.prog 15 m n [.ptr rid 0, .v (.int .i64 k)] (fun t m' n' => n ≤ n' ∧ (∃ r : Int, t = .v (.int .i64 r) ∧ 0 ≤ r ∧ (1 ≤ k → r < k)) ∧ m' = updM m rid (some (rdB bs (p + 1)))) :=
  pick_fn bs p hp k m n rid hm
theorem odd_at (bs : List UInt8) (p : Nat) (hp : p < 1000000000) (k : Int) (hk : k < 1000000) (m : Mem) (n rid : Nat) (hm : m rid = some (rdB bs p)) :
    FnS Try.prog 18 m n [.ptr rid 0, .v (.int .i64 k)] (fun t m' n' => n ≤ n' ∧ (∃ b : Bool, t = .v (.bool b) ∧ (k ≤ 0 → b = false)) ∧ RdTo 1 m rid bs p m') := by
  by_cases h : 0 < k
  · have hn : ¬ k ≤ 0 := by omega
    refine FnS_of (rs := [.tmp 4]) false Try.func18 rfl rfl rfl rfl (Nat.le_of_ble_eq_true rfl) ?_
    simp -dsimp [h]
    refine callS_ (pick_at bs p hp k m n rid hm) ?_
    rintro t m' n' ⟨hn', ⟨r, rfl, _, _⟩, rfl⟩
    simp -dsimp [h, hn]
    exact ⟨hn', p + 1, by omega, by omega, rfl⟩
  · have hn : k ≤ 0 := by omega
    refine FnS_of (rs := [.tmp 4]) false Try.func18 rfl rfl rfl rfl (Nat.le_of_ble_eq_true rfl) ?_
    simp -dsimp [h, hn]
    exact ⟨p, by omega, by omega, (updM_self hm).symm⟩
def natOf : T → Nat
  | .v (.int _ k) => k.toNat
  | .sv _ _ n => n
  | _ => 0
@[simp] theorem natOf_int (k : IntKind) (x : Int) : natOf (.v (.int k x)) = x.toNat := rfl
@[simp] theorem natOf_sv (i c n : Nat) : natOf (.sv i c n) = n := rfl
/-- What lies from n on. -/
def upper (n : Nat) (m : Mem) : Mem := fun j => if n ≤ j then m j else none
@[simp] theorem upper_def (n j : Nat) (m : Mem) : upper n m j = if n ≤ j then m j else none := rfl
/-- A row in the frame's memory, or none yet. -/
def IsRow (m : Mem) (lo hi : Nat) (e : Nat) (st : T) (xs : List V) : Prop := (st = .nil ∧ xs = []) ∨ ∃ i, st = .loc i ∧ lo ≤ i ∧ i < hi ∧ m i = some (.arr e xs)
theorem IsRow.cell {m : Mem} {lo hi e : Nat} {st : T} {xs : List V} (h : IsRow m lo hi e st xs) : st.cell = true := by
  rcases h with ⟨rfl, _⟩ | ⟨i, rfl, _⟩ <;> rfl
theorem IsRow.bor {m m' : Mem} {lo hi e n0 : Nat} {st : T} {xs : List V} (h : IsRow m lo hi e st xs) (hn : n0 ≤ lo) (hm : ∀ i, st = .loc i → lo ≤ i → i < hi → m' i = m i) (d : Nat) : bor true (upper n0 m') d st = some (.sl xs) := by
  rcases h with ⟨rfl, rfl⟩ | ⟨i, rfl, h1, h2, h3⟩
  · simp
  · have : n0 ≤ i := by omega
    simp [hm i rfl h1 h2, h3, this]
theorem nes (n : Nat) : (¬ n = n + 1) ∧ (¬ n = n + 1 + 1) ∧ (¬ n = n + 1 + 1 + 1) ∧ (¬ n = n + 1 + 1 + 1 + 1) ∧ (¬ n = n + 1 + 1 + 1 + 1 + 1) ∧ (¬ n = n + 1 + 1 + 1 + 1 + 1 + 1) ∧ (¬ n = n + 1 + 1 + 1 + 1 + 1 + 1 + 1) ∧ (¬ n + 1 = n) ∧ (¬ n + 1 = n + 1 + 1) ∧ (¬ n + 1 = n + 1 + 1 + 1) ∧ (¬ n + 1 = n + 1 + 1 + 1 + 1) ∧ (¬ n + 1 = n + 1 + 1 + 1 + 1 + 1) ∧ (¬ n + 1 = n + 1 + 1 + 1 + 1 + 1 + 1) ∧ (¬ n + 1 = n + 1 + 1 + 1 + 1 + 1 + 1 + 1) ∧ (¬ n + 1 + 1 = n) ∧ (¬ n + 1 + 1 = n + 1) ∧ (¬ n + 1 + 1 = n + 1 + 1 + 1) ∧ (¬ n + 1 + 1 = n + 1 + 1 + 1 + 1) ∧ (¬ n + 1 + 1 = n + 1 + 1 + 1 + 1 + 1) ∧ (¬ n + 1 + 1 = n + 1 + 1 + 1 + 1 + 1 + 1) ∧ (¬ n + 1 + 1 = n + 1 + 1 + 1 + 1 + 1 + 1 + 1) ∧ (¬ n + 1 + 1 + 1 = n) ∧ (¬ n + 1 + 1 + 1 = n + 1) ∧ (¬ n + 1 + 1 + 1 = n + 1 + 1) ∧ (¬ n + 1 + 1 + 1 = n + 1 + 1 + 1 + 1) ∧ (¬ n + 1 + 1 + 1 = n + 1 + 1 + 1 + 1 + 1) ∧ (¬ n + 1 + 1 + 1 = n + 1 + 1 + 1 + 1 + 1 + 1) ∧ (¬ n + 1 + 1 + 1 = n + 1 + 1 + 1 + 1 + 1 + 1 + 1) ∧ (¬ n + 1 + 1 + 1 + 1 = n) ∧ (¬ n + 1 + 1 + 1 + 1 = n + 1) ∧ (¬ n + 1 + 1 + 1 + 1 = n + 1 + 1) ∧ (¬ n + 1 + 1 + 1 + 1 = n + 1 + 1 + 1) ∧ (¬ n + 1 + 1 + 1 + 1 = n + 1 + 1 + 1 + 1 + 1) ∧ (¬ n + 1 + 1 + 1 + 1 = n + 1 + 1 + 1 + 1 + 1 + 1) ∧ (¬ n + 1 + 1 + 1 + 1 = n + 1 + 1 + 1 + 1 + 1 + 1 + 1) ∧ (¬ n + 1 + 1 + 1 + 1 + 1 = n) ∧ (¬ n + 1 + 1 + 1 + 1 + 1 = n + 1) ∧ (¬ n + 1 + 1 + 1 + 1 + 1 = n + 1 + 1) ∧ (¬ n + 1 + 1 + 1 + 1 + 1 = n + 1 + 1 + 1) ∧ (¬ n + 1 + 1 + 1 + 1 + 1 = n + 1 + 1 + 1 + 1) ∧ (¬ n + 1 + 1 + 1 + 1 + 1 = n + 1 + 1 + 1 + 1 + 1 + 1) ∧ (¬ n + 1 + 1 + 1 + 1 + 1 = n + 1 + 1 + 1 + 1 + 1 + 1 + 1) ∧ (¬ n + 1 + 1 + 1 + 1 + 1 + 1 = n) ∧ (¬ n + 1 + 1 + 1 + 1 + 1 + 1 = n + 1) ∧ (¬ n + 1 + 1 + 1 + 1 + 1 + 1 = n + 1 + 1) ∧ (¬ n + 1 + 1 + 1 + 1 + 1 + 1 = n + 1 + 1 + 1) ∧ (¬ n + 1 + 1 + 1 + 1 + 1 + 1 = n + 1 + 1 + 1 + 1) ∧ (¬ n + 1 + 1 + 1 + 1 + 1 + 1 = n + 1 + 1 + 1 + 1 + 1) ∧ (¬ n + 1 + 1 + 1 + 1 + 1 + 1 = n + 1 + 1 + 1 + 1 + 1 + 1 + 1) ∧ (¬ n + 1 + 1 + 1 + 1 + 1 + 1 + 1 = n) ∧ (¬ n + 1 + 1 + 1 + 1 + 1 + 1 + 1 = n + 1) ∧ (¬ n + 1 + 1 + 1 + 1 + 1 + 1 + 1 = n + 1 + 1) ∧ (¬ n + 1 + 1 + 1 + 1 + 1 + 1 + 1 = n + 1 + 1 + 1) ∧ (¬ n + 1 + 1 + 1 + 1 + 1 + 1 + 1 = n + 1 + 1 + 1 + 1) ∧ (¬ n + 1 + 1 + 1 + 1 + 1 + 1 + 1 = n + 1 + 1 + 1 + 1 + 1) ∧ (¬ n + 1 + 1 + 1 + 1 + 1 + 1 + 1 = n + 1 + 1 + 1 + 1 + 1 + 1) := by
  refine ⟨?_, ?_, ?_, ?_, ?_, ?_, ?_, ?_, ?_, ?_, ?_, ?_, ?_, ?_, ?_, ?_, ?_, ?_, ?_, ?_, ?_, ?_, ?_, ?_, ?_, ?_, ?_, ?_, ?_, ?_, ?_, ?_, ?_, ?_, ?_, ?_, ?_, ?_, ?_, ?_, ?_, ?_, ?_, ?_, ?_, ?_, ?_, ?_, ?_, ?_, ?_, ?_, ?_, ?_, ?_, ?_⟩ <;> omega
theorem ft (b : Bool) : b = false ∨ b = true := by cases b <;> simp
theorem far {a n : Nat} (lt : a < n) : (¬ a = n) ∧ (¬ n = a) ∧ (∀ x0, ¬ a = n + x0) ∧ (∀ x0, ¬ n + x0 = a) ∧ (∀ x0 x1, ¬ a = n + x0 + x1) ∧ (∀ x0 x1, ¬ n + x0 + x1 = a) ∧ (∀ x0 x1 x2, ¬ a = n + x0 + x1 + x2) ∧ (∀ x0 x1 x2, ¬ n + x0 + x1 + x2 = a) ∧ (∀ x0 x1 x2 x3, ¬ a = n + x0 + x1 + x2 + x3) ∧ (∀ x0 x1 x2 x3, ¬ n + x0 + x1 + x2 + x3 = a) ∧ (∀ x0 x1 x2 x3 x4, ¬ a = n + x0 + x1 + x2 + x3 + x4) ∧ (∀ x0 x1 x2 x3 x4, ¬ n + x0 + x1 + x2 + x3 + x4 = a) ∧ (∀ x0 x1 x2 x3 x4 x5, ¬ a = n + x0 + x1 + x2 + x3 + x4 + x5) ∧ (∀ x0 x1 x2 x3 x4 x5, ¬ n + x0 + x1 + x2 + x3 + x4 + x5 = a) ∧ (∀ x0 x1 x2 x3 x4 x5 x6, ¬ a = n + x0 + x1 + x2 + x3 + x4 + x5 + x6) ∧ (∀ x0 x1 x2 x3 x4 x5 x6, ¬ n + x0 + x1 + x2 + x3 + x4 + x5 + x6 = a) ∧ (∀ x0 x1 x2 x3 x4 x5 x6 x7, ¬ a = n + x0 + x1 + x2 + x3 + x4 + x5 + x6 + x7) ∧ (∀ x0 x1 x2 x3 x4 x5 x6 x7, ¬ n + x0 + x1 + x2 + x3 + x4 + x5 + x6 + x7 = a) ∧ (∀ x0 x1 x2 x3 x4 x5 x6 x7 x8, ¬ a = n + x0 + x1 + x2 + x3 + x4 + x5 + x6 + x7 + x8) ∧ (∀ x0 x1 x2 x3 x4 x5 x6 x7 x8, ¬ n + x0 + x1 + x2 + x3 + x4 + x5 + x6 + x7 + x8 = a) ∧ (∀ x0 x1 x2 x3 x4 x5 x6 x7 x8 x9, ¬ a = n + x0 + x1 + x2 + x3 + x4 + x5 + x6 + x7 + x8 + x9) ∧ (∀ x0 x1 x2 x3 x4 x5 x6 x7 x8 x9, ¬ n + x0 + x1 + x2 + x3 + x4 + x5 + x6 + x7 + x8 + x9 = a) :=
  ⟨by omega, by omega, fun _ => by omega, fun _ => by omega, fun _ _ => by omega, fun _ _ => by omega, fun _ _ _ => by omega, fun _ _ _ => by omega, fun _ _ _ _ => by omega, fun _ _ _ _ => by omega, fun _ _ _ _ _ => by omega, fun _ _ _ _ _ => by omega, fun _ _ _ _ _ _ => by omega, fun _ _ _ _ _ _ => by omega, fun _ _ _ _ _ _ _ => by omega, fun _ _ _ _ _ _ _ => by omega, fun _ _ _ _ _ _ _ _ => by omega, fun _ _ _ _ _ _ _ _ => by omega, fun _ _ _ _ _ _ _ _ _ => by omega, fun _ _ _ _ _ _ _ _ _ => by omega, fun _ _ _ _ _ _ _ _ _ _ => by omega, fun _ _ _ _ _ _ _ _ _ _ => by omega⟩
end TL

/- TL, part 22: rows that are made at once and filled one by one. -/
set_option linter.unusedVariables false
set_option linter.unusedSimpArgs false
namespace TL
open Go
theorem flat_len {k : Nat} : ∀ {bl : List (List T)}, (∀ x ∈ bl, x.length = k) → bl.flatten.length = bl.length * k
  | [], _ => by simp
  | b :: bl, h => by
    have h1 := h b (List.mem_cons_self ..)
    have h2 := flat_len (bl := bl) fun x hx => h x (List.mem_cons_of_mem _ hx)
    rw [List.flatten_cons, List.length_append, h1, h2, List.length_cons, Nat.succ_mul]; omega
theorem setAt_append (a b : List T) : ∀ (xs : List T) (off : Nat), a.length = off → xs.length ≤ b.length → setAt (a ++ b) off xs = a ++ xs ++ b.drop xs.length
  | [], off, h, _ => by simp [setAt]
  | x :: xs, off, h, hl => by
    cases b with
    | nil => simp at hl
    | cons y ys =>
      unfold setAt
      rw [List.set_append_right _ _ (by omega), show off - a.length = 0 by omega, List.set_cons_zero]
      have := setAt_append (a ++ [x]) ys xs (off + 1) (by simp; omega) (by simpa using hl)
      rw [show a ++ x :: ys = a ++ [x] ++ ys by simp, this]; simp
theorem setAt_flat {k : Nat} {bl : List (List T)} {i : Nat} {b : List T} (h : ∀ x ∈ bl, x.length = k) (hb : b.length = k) (hi : i < bl.length) : setAt bl.flatten (i * k) b = (bl.set i b).flatten := by
  have e1 : bl = bl.take i ++ bl[i] :: bl.drop (i + 1) := by rw [← List.drop_eq_getElem_cons hi, List.take_append_drop]
  have l1 : (bl.take i).flatten.length = i * k := by rw [flat_len (k := k) fun x hx => h x (List.mem_of_mem_take hx), List.length_take]; congr 1; omega
  have l2 : bl[i].length = k := h _ (List.getElem_mem _)
  have e2 : bl.flatten = (bl.take i).flatten ++ (bl[i] ++ (bl.drop (i + 1)).flatten) := by
    have e4 : bl.flatten = (bl.take i ++ bl[i] :: bl.drop (i + 1)).flatten := by rw [← e1]
    rw [e4, List.flatten_append, List.flatten_cons]
  have e3 : bl.set i b = bl.take i ++ b :: bl.drop (i + 1) := by rw [List.set_eq_take_append_cons_drop, if_pos hi]
  rw [e2, setAt_append _ _ b _ l1 (by simp; omega), e3, hb]
  rw [List.drop_append_of_le_length (by omega), List.drop_eq_nil_of_le (by omega)]
  simp
/-- The cells of an element. -/
def cellsT (x : V) : List T := x.cells.map .v
/-- A row of which the first i are filled. -/
def filled {α : Type} (v : α → V) (zs : List T) (l : List α) (i : Nat) : List (List T) := (l.take i).map (fun a => cellsT (v a)) ++ List.replicate (l.length - i) zs
/-- Elements of k cells. -/
def ElemOk {α : Type} (v : α → V) (k : Nat) : Prop := ∀ a, (v a).cells.length = k ∧ (∀ c ∈ (v a).cells, c.cell = true) ∧ (if k = 1 then (v a).cells = [v a] else v a = .agg (v a).cells)
theorem filled_len {α : Type} {v : α → V} {zs : List T} {l : List α} {i : Nat} (hi : i ≤ l.length) : (filled v zs l i).length = l.length := by
  simp [filled]; omega
theorem filled_all {α : Type} {v : α → V} {zs : List T} {l : List α} {i k : Nat} (hv : ElemOk v k) (hz : zs.length = k) : ∀ x ∈ filled v zs l i, x.length = k := by
  intro x hx
  rcases List.mem_append.1 hx with hx | hx
  · obtain ⟨a, _, rfl⟩ := List.mem_map.1 hx
    simp [cellsT, (hv a).1]
  · rw [(List.mem_replicate.1 hx).2, hz]
theorem filled_zero {α : Type} (v : α → V) (zs : List T) (l : List α) : (filled v zs l 0).flatten = (List.replicate l.length zs).flatten := by simp [filled]
theorem filled_flat_len {α : Type} {v : α → V} {zs : List T} {l : List α} {i k : Nat} (hv : ElemOk v k) (hz : zs.length = k) (hi : i ≤ l.length) : (filled v zs l i).flatten.length = l.length * k := by
  rw [flat_len (filled_all hv hz), filled_len hi]
theorem filled_set {α : Type} {v : α → V} {zs : List T} {l : List α} {i k : Nat} (hv : ElemOk v k) (hz : zs.length = k) (hi : i < l.length) : setAt (filled v zs l i).flatten (i * k) (cellsT (v l[i])) = (filled v zs l (i + 1)).flatten := by
  rw [setAt_flat (filled_all hv hz) (by simp [cellsT, (hv _).1]) (by rw [filled_len (by omega)]; exact hi)]
  congr 1
  unfold filled
  rw [List.set_append_right _ _ (by simp; omega), List.take_succ_eq_append_getElem hi]
  rw [show l.length - i = (l.length - (i + 1)) + 1 by omega, List.replicate_succ]
  simp only [List.length_map, List.length_take, Nat.min_eq_left (Nat.le_of_lt hi), Nat.sub_self, List.set_cons_zero, List.map_append, List.map_cons, List.map_nil, List.append_assoc, List.cons_append, List.nil_append]
theorem filled_end {α : Type} (v : α → V) (zs : List T) (l : List α) : filled v zs l l.length = l.map fun a => cellsT (v a) := by simp [filled]
theorem mapO_cells {k : Bool} {m : Mem} {d : Nat} : ∀ (xs : List V), mapO (bor k m d) (xs.map .v) = some xs
  | [] => rfl
  | x :: xs => by simp [mapO, mapO_cells xs]
theorem cells_flat {α : Type} (v : α → V) : ∀ l : List α, (l.map fun a => cellsT (v a)).flatten = (l.flatMap fun a => (v a).cells).map T.v
  | [] => rfl
  | x :: xs => by simp only [List.map_cons, List.flatten_cons, cells_flat v xs, List.flatMap_cons, List.map_append]; rfl
theorem chunk_elems {α : Type} {v : α → V} {k : Nat} (hv : ElemOk v k) : ∀ l : List α, chunk k l.length (l.flatMap fun a => (v a).cells) = l.map v
  | [] => rfl
  | a :: l => by
    obtain ⟨h1, h2, h3⟩ := hv a
    simp only [List.length_cons, chunk, List.flatMap_cons, List.map_cons]
    rw [List.drop_append_of_le_length (by omega), List.drop_eq_nil_of_le (by omega), List.nil_append, chunk_elems hv l]
    congr 1
    by_cases hk : k = 1
    · rw [if_pos hk] at h3 ⊢; rw [h3]; rfl
    · rw [if_neg hk] at h3 ⊢
      rw [List.take_append_of_le_length (by omega), List.take_of_length_le (by omega), ← h3]
theorem bor_filled {α : Type} {v : α → V} {k : Nat} (hv : ElemOk v k) {m : Mem} {id e : Nat} {zs : List T} {l : List α} (d : Nat) (hm : m id = some (.box e k (filled v zs l l.length).flatten)) : bor true m (d + 1) (.sv id 0 l.length) = some (.sl (l.map v)) := by
  have hlen : (l.flatMap fun a => (v a).cells).length = l.length * k := by
    induction l with
    | nil => simp
    | cons a l ih => simp only [List.flatMap_cons, List.length_append, (hv a).1, List.length_cons, Nat.succ_mul]; rw [show (l.flatMap fun a => (v a).cells).length = l.length * k from ?_]; · omega
                     clear ih hm
                     induction l with
                     | nil => simp
                     | cons b l ih => simp only [List.flatMap_cons, List.length_append, (hv b).1, List.length_cons, Nat.succ_mul, ih]; omega
  unfold bor
  rw [hm]
  simp only [if_true, filled_end, cells_flat, List.length_map, hlen, Nat.zero_add, Nat.le_refl, tst_true, List.drop_zero]
  rw [List.take_of_length_le (by simp [hlen]), mapO_cells]
  simp only [obind_some]
  rw [tst_pos, chunk_elems hv]
  intro x hx
  obtain ⟨a, _, ha⟩ := List.mem_flatMap.1 hx
  exact (hv a).2.1 x ha
end TL

/- The functions by which the exact laws measure, turn and compare their arguments. -/
set_option linter.unusedSimpArgs false
set_option linter.unusedVariables false
set_option maxRecDepth 100000
set_option maxHeartbeats 4000000
set_option pp.maxSteps 1500
namespace TL
open Go Go.Proofs
attribute [local simp] marksV storyV codeV Claim.v Place.v
theorem elemOk_mark : ElemOk Mark.v 2 := fun a => ⟨rfl, by simp [Mark.v], by simp [Mark.v]⟩
theorem elemOk_claim : ElemOk Claim.v 2 := fun a => ⟨rfl, by simp, by simp⟩
theorem elemOk_place : ElemOk Place.v 2 := fun a => ⟨rfl, by simp, by simp⟩
theorem cellsT_mark (m : Mark) : cellsT m.v = [.v (.int .i64 m.kind), .v (.int .i64 m.num)] := rfl
theorem cellsT_claim (c : Claim) : cellsT c.v = [.v (.int .i64 c.who), .v (.sl (c.says.map Mark.v))] := rfl
theorem cellsT_place (p : Place) : cellsT p.v = [.v (.int .i64 p.people), .v (.sl (p.story.map Claim.v))] := rfl
/-- What is left of a measure. -/
def szR (left : Int) (n : Nat) : Int := if left - n < 0 then -1 else left - n
def Claim.small (c : Claim) : Prop := c.says.length ≤ 1048576
def Place.small (p : Place) : Prop := p.story.length ≤ 1048576 ∧ ∀ c ∈ p.story, c.small
theorem take_eq_succ {α : Type} {a b : List α} {i : Nat} (ha : i < a.length) (hb : i < b.length) (h : a.take i = b.take i) (he : a[i] = b[i]) : a.take (i + 1) = b.take (i + 1) := by
  rw [List.take_succ_eq_append_getElem ha, List.take_succ_eq_append_getElem hb, h, he]
def ItoMarkS (l : List Mark) (a : Nat) (s : S) : Prop := ∃ i : Nat, s.tm 0 = .v (.sl (l.map Mark.v)) ∧ s.tm 3 = .sv 0 0 l.length ∧ s.tm 4 = .v (.int .i64 i) ∧ i ≤ l.length ∧ s.m 0 = some (.box 56 2 (filled Mark.v [T.v (.int .i64 0), T.v (.int .i64 0)] l i).flatten) ∧ (a = 1 → i = l.length)
def ItoClaimS (l : List Claim) (a : Nat) (s : S) : Prop := ∃ i : Nat, s.tm 0 = .v (.sl (l.map Claim.v)) ∧ s.tm 3 = .sv 0 0 l.length ∧ s.tm 4 = .v (.int .i64 i) ∧ i ≤ l.length ∧ s.m 0 = some (.box 53 2 (filled Claim.v [T.v (.int .i64 0), T.nil] l i).flatten) ∧ (a = 1 → i = l.length)
def IeqMarkS (a b : List Mark) (e : Nat) (s : S) : Prop := ∃ i : Nat, s.tm 0 = .v (.sl (a.map Mark.v)) ∧ s.tm 1 = .v (.sl (b.map Mark.v)) ∧ s.tm 5 = .v (.int .i64 i) ∧ i ≤ a.length ∧ a.take i = b.take i ∧ (e = 1 → i = a.length)
def IeqClaimS (a b : List Claim) (e : Nat) (s : S) : Prop := ∃ i : Nat, s.tm 0 = .v (.sl (a.map Claim.v)) ∧ s.tm 1 = .v (.sl (b.map Claim.v)) ∧ s.tm 5 = .v (.int .i64 i) ∧ i ≤ a.length ∧ a.take i = b.take i ∧ (e = 1 → i = a.length)
end TL

/- Terms, claims, stories, places: what is one. -/
set_option linter.unusedSimpArgs false
set_option linter.unusedVariables false
set_option maxRecDepth 100000
set_option maxHeartbeats 4000000
set_option pp.maxSteps 1500
namespace TL
open Go Go.Proofs
attribute [local simp] marksV storyV codeV Claim.v Place.v
def peopleOk (p : Int) : Bool := decide (1 ≤ p) && decide (p ≤ 4)
def markStep (people : Int) (parts : Nat) (m : Mark) : Option Nat :=
  if m.kind = 0 then (if 0 ≤ m.num ∧ m.num < people then some (parts + 1) else none)
  else if m.kind = 1 then (if 0 ≤ m.num ∧ m.num ≤ people + 1 then some (parts + 1) else none)
  else if m.kind = 2 then (if m.num = 0 ∧ 1 ≤ parts then some parts else none)
  else if m.kind = 3 ∨ m.kind = 4 ∨ m.kind = 5 then (if m.num = 0 ∧ 2 ≤ parts then some (parts - 1) else none)
  else none
def marksRun (people : Int) : Nat → List Mark → Option Nat
  | parts, [] => some parts
  | parts, m :: ms => (markStep people parts m).bind fun q => marksRun people q ms
def termOk (people : Int) (t : List Mark) : Bool := peopleOk people && decide (1 ≤ t.length) && decide (t.length ≤ 15) && decide (marksRun people 0 t = some 1)
theorem markStep_le {people : Int} {parts q : Nat} {m : Mark} (h : markStep people parts m = some q) : q ≤ parts + 1 := by
  unfold markStep at h
  repeat' split at h
  all_goals first | (cases h; done) | (cases h; omega)
def TOI (people : Int) (t : List Mark) (a : Nat) (s : S) : Prop := ∃ (i parts : Nat), s.tm 0 = .v (.int .i64 people) ∧ s.tm 21 = .v (.sl (t.map Mark.v)) ∧ s.tm 22 = .v (.int .i64 t.length) ∧ s.tm 23 = .v (.int .i64 i) ∧ s.tm 5 = .v (.int .i64 parts) ∧ i ≤ t.length ∧ parts ≤ i ∧
  marksRun people parts (t.drop i) = marksRun people 0 t ∧ (a = 1 → i = t.length)
theorem termOk_fn (people : Int) (t : List Mark) : FnZ Try.prog 37 [.int .i64 people, marksV t] (.bool (termOk people t)) := by
  by_cases hp : 1 ≤ people ∧ people ≤ 4
  case neg =>
    have hk : peopleOk people = false := by simp only [peopleOk, Bool.and_eq_false_iff, decide_eq_false_iff_not]; omega
    have hr : termOk people t = false := by simp [termOk, hk]
    rw [hr]
    refine FnZ_of (rs := [.tmp 4]) false Try.func37 rfl rfl rfl rfl (Nat.le_of_ble_eq_true rfl) ?_
    simp -dsimp
    refine call_ (peopleOk_fn people) (by simp) ?_
    rw [show (decide (1 ≤ people) && decide (people ≤ 4)) = false from hk]
    simp -dsimp
  have hk : peopleOk people = true := by simp [peopleOk, hp]
  by_cases hl : 1 ≤ t.length ∧ t.length ≤ 15
  case neg =>
    have hr : termOk people t = false := by
      simp only [termOk, hk, Bool.true_and, Bool.and_eq_false_iff, decide_eq_false_iff_not]; omega
    rw [hr]
    refine FnZ_of (rs := [.tmp 4]) false Try.func37 rfl rfl rfl rfl (Nat.le_of_ble_eq_true rfl) ?_
    simp -dsimp
    refine call_ (peopleOk_fn people) (by simp) ?_
    rw [show (decide (1 ≤ people) && decide (people ≤ 4)) = true from hk]
    by_cases h0 : (t.length : Int) < 1
    · simp -dsimp [h0]
    · have h1 : (15 : Int) < t.length := by omega
      simp -dsimp [h0, h1]
  have h0 : ¬ (t.length : Int) < 1 := by omega
  have h1 : ¬ (15 : Int) < t.length := by omega
  have h1' : (t.length : Int) ≤ 15 := by omega
  have hr : termOk people t = decide (marksRun people 0 t = some 1) := by simp [termOk, hk, hl]
  rw [hr]
  refine FnZ_of (rs := [.tmp 4]) false Try.func37 rfl rfl rfl rfl (Nat.le_of_ble_eq_true rfl) ?_
  simp -dsimp
  refine call_ (peopleOk_fn people) (by simp) ?_
  rw [show (decide (1 ≤ people) && decide (people ≤ 4)) = true from hk]
  simp -dsimp [h0, h1, h1']
  refine twp_loopC (TOI people t 0) (fun s => t.length - natOf (s.tm 23)) (TOI people t 1) ?_ ?_ ?_
  · exact ⟨0, 0, by simp -dsimp, by simp -dsimp, by simp -dsimp, by simp -dsimp, by simp -dsimp, by simp, by simp, by simp, by simp⟩
  · rintro s ⟨i, parts, h0, h21, h22, h23, h5, hi, hpi, hrun, hend⟩
    by_cases hlt : i < t.length
    case neg =>
      simp -dsimp [h23, h22, hlt]
      exact ⟨i, parts, by simp [h0], by simp [h21], by simp [h22], by simp [h23], by simp [h5], hi, hpi, hrun, fun _ => by omega⟩
    have hget : (t.map Mark.v)[i]? = some (.agg [.int .i64 t[i].kind, .int .i64 t[i].num]) := by simp [Mark.v, hlt]
    have hstep := hrun
    rw [drop_cons hlt] at hstep
    simp only [marksRun] at hstep
    have wi : IntKind.wrap .i64 ((i : Int) + 1) = ((i + 1 : Nat) : Int) := by rw [w64 (by omega) (by omega)]; omega
    have wp : IntKind.wrap .i64 ((parts : Int) + 1) = ((parts + 1 : Nat) : Int) := by rw [w64 (by omega) (by omega)]; omega
    have wq : IntKind.wrap .i64 ((parts : Int) - 1) = if 1 ≤ parts then ((parts - 1 : Nat) : Int) else -1 := by rw [w64 (by omega) (by omega)]; split <;> omega
    have hmu : t.length - (i + 1) < t.length - i := by omega
    by_cases k0 : t[i].kind = 0
    · by_cases a0 : 0 ≤ t[i].num ∧ t[i].num < people
      · have hs : markStep people parts t[i] = some (parts + 1) := by simp [markStep, k0, a0]
        rw [hs] at hstep
        simp -dsimp [h0, h5, h23, h22, h21, hlt, hget, wi, wp, wq, k0, show ¬ t[i].num < 0 by omega, show ¬ people ≤ t[i].num by omega, hmu]
        exact ⟨i + 1, parts + 1, by simp -dsimp [h0], by simp -dsimp [h21], by simp -dsimp [h22], by simp -dsimp, by simp -dsimp [h5], by omega, by omega, hstep, by simp⟩
      · have hs : markStep people parts t[i] = none := by simp only [markStep, k0, if_neg a0, if_true]
        rw [hs] at hstep
        have hn : marksRun people 0 t = none := hstep.symm
        by_cases a1 : t[i].num < 0
        · simp -dsimp [h0, h5, h23, h22, h21, hlt, hget, wi, wp, wq, k0, a1, hn]
        · simp -dsimp [h0, h5, h23, h22, h21, hlt, hget, wi, wp, wq, k0, a1, hn, show people ≤ t[i].num by omega]
    by_cases k1 : t[i].kind = 1
    · have w1 : IntKind.wrap .i64 (people + 1) = people + 1 := w64 (by omega) (by omega)
      by_cases a0 : 0 ≤ t[i].num ∧ t[i].num ≤ people + 1
      · have hs : markStep people parts t[i] = some (parts + 1) := by simp [markStep, k1, a0]
        rw [hs] at hstep
        simp -dsimp [h0, h5, h23, h22, h21, hlt, hget, wi, wp, wq, k1, w1, show ¬ t[i].num < 0 by omega, show ¬ people + 1 < t[i].num by omega, hmu]
        exact ⟨i + 1, parts + 1, by simp -dsimp [h0], by simp -dsimp [h21], by simp -dsimp [h22], by simp -dsimp, by simp -dsimp [h5], by omega, by omega, hstep, by simp⟩
      · have hs : markStep people parts t[i] = none := by simp only [markStep, k1, if_neg a0, if_true]; simp
        rw [hs] at hstep
        have hn : marksRun people 0 t = none := hstep.symm
        by_cases a1 : t[i].num < 0
        · simp -dsimp [h0, h5, h23, h22, h21, hlt, hget, wi, wp, wq, k1, a1, hn]
        · simp -dsimp [h0, h5, h23, h22, h21, hlt, hget, wi, wp, wq, k1, a1, hn, w1, show people + 1 < t[i].num by omega]
    by_cases k2 : t[i].kind = 2
    · by_cases a0 : t[i].num = 0 ∧ 1 ≤ parts
      · have hs : markStep people parts t[i] = some (parts) := by simp [markStep, k2, a0]
        rw [hs] at hstep
        simp -dsimp [h0, h5, h23, h22, h21, hlt, hget, wi, wp, wq, k2, a0.1, show ¬ (parts : Int) < 1 by omega, show ¬ parts = 0 by omega, hmu]
        exact ⟨i + 1, parts, by simp -dsimp [h0], by simp -dsimp [h21], by simp -dsimp [h22], by simp -dsimp, by simp -dsimp [h5], by omega, by omega, hstep, by simp⟩
      · have hs : markStep people parts t[i] = none := by simp only [markStep, k2, if_neg a0, if_true]; simp
        rw [hs] at hstep
        have hn : marksRun people 0 t = none := hstep.symm
        by_cases a1 : t[i].num = 0
        · simp -dsimp [h0, h5, h23, h22, h21, hlt, hget, wi, wp, wq, k2, a1, hn, show (parts : Int) < 1 by omega, show parts = 0 by omega]
        · simp -dsimp [h0, h5, h23, h22, h21, hlt, hget, wi, wp, wq, k2, a1, hn]
    by_cases k3 : t[i].kind = 3 ∨ t[i].kind = 4 ∨ t[i].kind = 5
    · by_cases a0 : t[i].num = 0 ∧ 2 ≤ parts
      · have hs : markStep people parts t[i] = some (parts - 1) := by simp [markStep, k0, k1, k2, k3, a0]
        rw [hs] at hstep
        have e1 : ¬ (parts : Int) < 2 := by omega
        have e2 : 1 ≤ parts := by omega
        rcases k3 with k3 | k3 | k3
        all_goals
          simp -dsimp [h0, h5, h23, h22, h21, hlt, hget, wi, wp, wq, k3, a0.1, e1, e2, hmu]
          exact ⟨i + 1, parts - 1, by simp -dsimp [h0], by simp -dsimp [h21], by simp -dsimp [h22], by simp -dsimp, by simp -dsimp [h5], by omega, by omega, hstep, by simp⟩
      · have hs : markStep people parts t[i] = none := by simp only [markStep, if_neg k0, if_neg k1, if_neg k2, if_pos k3, if_neg a0]
        rw [hs] at hstep
        have hn : marksRun people 0 t = none := hstep.symm
        by_cases a1 : t[i].num = 0
        · have e1 : (parts : Int) < 2 := by omega
          rcases k3 with k3 | k3 | k3 <;> simp -dsimp [h0, h5, h23, h22, h21, hlt, hget, wi, wp, wq, k3, a1, hn, e1]
        · rcases k3 with k3 | k3 | k3 <;> simp -dsimp [h0, h5, h23, h22, h21, hlt, hget, wi, wp, wq, k3, a1, hn]
    · have hs : markStep people parts t[i] = none := by simp only [markStep, if_neg k0, if_neg k1, if_neg k2, if_neg k3]
      rw [hs] at hstep
      have hn : marksRun people 0 t = none := hstep.symm
      have k3' := not_or.1 k3
      have k4' := not_or.1 k3'.2
      simp -dsimp [h0, h5, h23, h22, h21, hlt, hget, wi, wp, wq, k0, k1, k2, k3'.1, k4'.1, k4'.2, hn]
  · rintro s ⟨i, parts, h0, h21, h22, h23, h5, hi, hpi, hrun, hend⟩
    simp -dsimp [h5]
    have := hend rfl
    subst this
    simp [marksRun] at hrun
    rw [← hrun]; simp; omega
end TL

/- spec: terms, claims, stories, places. -/
set_option linter.unusedSimpArgs false
set_option linter.unusedVariables false
set_option maxRecDepth 100000
set_option maxHeartbeats 4000000
set_option pp.maxSteps 1500
namespace TL
open Go Go.Proofs
attribute [local simp] marksV storyV codeV Claim.v Place.v
def inR (n a b : Int) : Bool := decide (a ≤ n) && decide (n ≤ b)
theorem inR_true {n a b : Int} : inR n a b = true ↔ a ≤ n ∧ n ≤ b := by simp [inR]
theorem inR_false {n a b : Int} : inR n a b = false ↔ ¬ (a ≤ n ∧ n ≤ b) := by rw [← inR_true]; cases inR n a b <;> simp
theorem l1In_fn (n a b : Int) : FnZ Try.prog 30 [.int .i64 n, .int .i64 a, .int .i64 b] (.bool (inR n a b)) := by
  unfold inR
  refine FnZ_of (rs := [.tmp 6]) false Try.func30 rfl rfl rfl rfl (Nat.le_of_ble_eq_true rfl) ?_
  by_cases h : a ≤ n <;> simp -dsimp [h]
theorem termOk_eq (people : Int) (t : List Mark) : termOk people t = (peopleOk people && decide (marksRun people 0 t = some 1) && decide (t.length ≤ 15)) := by
  cases t with
  | nil => simp [termOk, marksRun]
  | cons x xs =>
    rw [Bool.eq_iff_iff]
    simp only [termOk, Bool.and_eq_true, decide_eq_true_eq, List.length_cons]
    constructor
    · rintro ⟨⟨⟨h1, h2⟩, h3⟩, h4⟩; exact ⟨⟨h1, h4⟩, h3⟩
    · rintro ⟨⟨h1, h4⟩, h3⟩; exact ⟨⟨⟨h1, by omega⟩, h3⟩, h4⟩
def TOS (people : Int) (t : List Mark) (a : Nat) (s : S) : Prop := ∃ (i parts : Nat), s.tm 0 = .v (.int .i64 people) ∧ s.tm 1 = .v (.sl (t.map Mark.v)) ∧ s.tm 6 = .v (.int .i64 i) ∧ s.tm 5 = .v (.int .i64 parts) ∧ i ≤ t.length ∧ parts ≤ i ∧
  marksRun people parts (t.drop i) = marksRun people 0 t ∧ (a = 1 → i = t.length)
theorem termOkS_fn (people : Int) (t : List Mark) (hf : fits t) (hl : t.length < 1000000000000) : FnZ Try.prog 38 [.int .i64 people, marksV t] (.bool (termOk people t)) := by
  rw [termOk_eq]
  refine FnZ_of (rs := [.tmp 4]) false Try.func38 rfl rfl rfl rfl (Nat.le_of_ble_eq_true rfl) ?_
  simp -dsimp
  refine twp_loopC (TOS people t 0) (fun s => t.length - natOf (s.tm 6)) (TOS people t 1) ?_ ?_ ?_
  · exact ⟨0, 0, by simp -dsimp, by simp -dsimp, by simp -dsimp, by simp -dsimp, by simp, by simp, by simp, by simp⟩
  · rintro s ⟨i, parts, h0, h1, h6, h5, hi, hpi, hrun, hend⟩
    by_cases hlt : i < t.length
    case neg =>
      simp -dsimp [h1, h6, hlt]
      exact ⟨i, parts, by simp -dsimp [h0], by simp -dsimp [h1], by simp -dsimp [h6], by simp -dsimp [h5], hi, hpi, hrun, fun _ => by omega⟩
    have hget : (t.map Mark.v)[i]? = some (.agg [.int .i64 t[i].kind, .int .i64 t[i].num]) := by simp [Mark.v, hlt]
    have hv : t[i].v = .agg [.int .i64 t[i].kind, .int .i64 t[i].num] := rfl
    have hfi := hf t[i] (List.getElem_mem _)
    have hfa := hfi.2
    unfold TL.fit at hfa
    have hstep := hrun
    rw [drop_cons hlt] at hstep
    simp only [marksRun] at hstep
    have wi : IntKind.wrap .i64 ((i : Int) + 1) = ((i + 1 : Nat) : Int) := by rw [w64 (by omega) (by omega)]; omega
    have wp : IntKind.wrap .i64 ((parts : Int) + 1) = ((parts + 1 : Nat) : Int) := by rw [w64 (by omega) (by omega)]; omega
    have wq : 2 ≤ parts → IntKind.wrap .i64 ((parts : Int) - 1) = ((parts - 1 : Nat) : Int) := fun h => by rw [w64 (by omega) (by omega)]; omega
    have hmu : t.length - (i + 1) < t.length - i := by omega
    have bad : markStep people parts t[i] = none → marksRun people 0 t = none := fun hs => by rw [hs] at hstep; exact hstep.symm
    by_cases k0 : t[i].kind = 0
    · by_cases a0 : 0 ≤ t[i].num ∧ t[i].num < people
      · have hs : markStep people parts t[i] = some (parts + 1) := by simp [markStep, k0, a0]
        rw [hs] at hstep
        simp -dsimp [h0, h1, h5, h6, hlt, hget, wi, wp, k0, a0.1, a0.2, hmu]
        exact ⟨i + 1, parts + 1, by simp -dsimp [h0], by simp -dsimp [h1], by simp -dsimp, by simp -dsimp [h5], by omega, by omega, hstep, by simp⟩
      · have hn := bad (by simp only [markStep, k0, if_neg a0, if_true])
        by_cases a1 : 0 ≤ t[i].num
        · have a2 : ¬ t[i].num < people := by omega
          simp -dsimp [h0, h1, h5, h6, hlt, hget, wi, wp, k0, a1, a2]
          refine call_ (l1In_fn _ _ _) (by simp -dsimp <;> exact ⟨rfl, rfl, rfl⟩) ?_
          simp -dsimp [k0, hn, show inR 0 3 5 = false from rfl]
        · simp -dsimp [h0, h1, h5, h6, hlt, hget, wi, wp, k0, a1]
          refine call_ (l1In_fn _ _ _) (by simp -dsimp <;> exact ⟨rfl, rfl, rfl⟩) ?_
          simp -dsimp [k0, hn, show inR 0 3 5 = false from rfl]
    by_cases k1 : t[i].kind = 1
    · have w1 : IntKind.wrap .i64 (t[i].num - 1) = if 0 ≤ t[i].num then t[i].num - 1 else IntKind.wrap .i64 (t[i].num - 1) := by
        split
        · exact w64 (by omega) (by omega)
        · rfl
      by_cases a0 : 0 ≤ t[i].num ∧ t[i].num ≤ people + 1
      · have hs : markStep people parts t[i] = some (parts + 1) := by simp [markStep, k1, a0]
        rw [hs] at hstep
        have w2 : IntKind.wrap .i64 (t[i].num - 1) = t[i].num - 1 := w64 (by omega) (by omega)
        by_cases a1 : t[i].num ≤ people
        · simp -dsimp [h0, h1, h5, h6, hlt, hget, wi, wp, k1, a0.1, a1, hmu]
          exact ⟨i + 1, parts + 1, by simp -dsimp [h0], by simp -dsimp [h1], by simp -dsimp, by simp -dsimp [h5], by omega, by omega, hstep, by simp⟩
        · have a2 : t[i].num - 1 = people := by omega
          simp -dsimp [h0, h1, h5, h6, hlt, hget, wi, wp, k1, a0.1, show ¬ t[i].num ≤ people from a1, w2.trans a2, hmu]
          exact ⟨i + 1, parts + 1, by simp -dsimp [h0], by simp -dsimp [h1], by simp -dsimp, by simp -dsimp [h5], by omega, by omega, hstep, by simp⟩
      · have hn := bad (by simp only [markStep, k1, if_neg a0, if_true]; simp)
        by_cases a1 : 0 ≤ t[i].num
        · have a2 : ¬ t[i].num ≤ people := by omega
          have a3 : ¬ t[i].num - 1 = people := by omega
          have w2 : IntKind.wrap .i64 (t[i].num - 1) = t[i].num - 1 := w64 (by omega) (by omega)
          simp -dsimp [h0, h1, h5, h6, hlt, hget, wi, wp, k1, a1, a2, w2, a3]
          refine call_ (l1In_fn _ _ _) (by simp -dsimp <;> exact ⟨rfl, rfl, rfl⟩) ?_
          simp -dsimp [k1, hn, show inR 1 3 5 = false from rfl]
        · simp -dsimp [h0, h1, h5, h6, hlt, hget, wi, wp, k1, a1]
          refine call_ (l1In_fn _ _ _) (by simp -dsimp <;> exact ⟨rfl, rfl, rfl⟩) ?_
          simp -dsimp [k1, hn, show inR 1 3 5 = false from rfl]
    by_cases k2 : t[i].kind = 2
    · by_cases a0 : t[i].num = 0 ∧ 1 ≤ parts
      · have hs : markStep people parts t[i] = some parts := by simp [markStep, k2, a0]
        rw [hs] at hstep
        have e1 : (1 : Int) ≤ parts := by omega
        simp -dsimp [h0, h1, h5, h6, hlt, hget, wi, wp, hv, k2, a0.1, e1, hmu]
        exact ⟨i + 1, parts, by simp -dsimp [h0], by simp -dsimp [h1], by simp -dsimp, by simp -dsimp [h5], by omega, by omega, hstep, by simp⟩
      · have hn := bad (by simp only [markStep, k2, if_neg a0, if_true]; simp)
        by_cases a1 : t[i].num = 0
        · have e1 : ¬ (1 : Int) ≤ parts := by omega
          simp -dsimp [h0, h1, h5, h6, hlt, hget, wi, wp, hv, k2, a1, e1]
          refine call_ (l1In_fn _ _ _) (by simp -dsimp <;> exact ⟨rfl, rfl, rfl⟩) ?_
          simp -dsimp [k2, hn, show inR 2 3 5 = false from rfl]
        · simp -dsimp [h0, h1, h5, h6, hlt, hget, wi, wp, hv, k2, a1]
          refine call_ (l1In_fn _ _ _) (by simp -dsimp <;> exact ⟨rfl, rfl, rfl⟩) ?_
          simp -dsimp [k2, hn, show inR 2 3 5 = false from rfl]
    have hk2 : (decide (t[i].kind = 2)) = false := by simp [k2]
    by_cases k3 : t[i].kind = 3 ∨ t[i].kind = 4 ∨ t[i].kind = 5
    · have hin : inR t[i].kind 3 5 = true := inR_true.2 (by omega)
      by_cases a0 : t[i].num = 0 ∧ 2 ≤ parts
      · have hs : markStep people parts t[i] = some (parts - 1) := by simp [markStep, k0, k1, k2, k3, a0]
        rw [hs] at hstep
        have e1 : (2 : Int) ≤ parts := by omega
        have wq := wq a0.2
        simp -dsimp [h0, h1, h5, h6, hlt, hget, wi, wp, hv, k0, k1, k2]
        refine call_ (l1In_fn _ _ _) (by simp -dsimp <;> exact ⟨rfl, rfl, rfl⟩) ?_
        simp -dsimp [h0, h1, h5, h6, hlt, hget, wi, wp, hin, a0.1, e1, wq, hmu]
        exact ⟨i + 1, parts - 1, by simp -dsimp [h0], by simp -dsimp [h1], by simp -dsimp, by simp -dsimp [h5], by omega, by omega, hstep, by simp⟩
      · have hn := bad (by simp only [markStep, if_neg k0, if_neg k1, if_neg k2, if_pos k3, if_neg a0])
        simp -dsimp [h0, h1, h5, h6, hlt, hget, wi, wp, hv, k0, k1, k2]
        refine call_ (l1In_fn _ _ _) (by simp -dsimp <;> exact ⟨rfl, rfl, rfl⟩) ?_
        by_cases a1 : t[i].num = 0
        · have e1 : ¬ (2 : Int) ≤ parts := by omega
          simp -dsimp [h0, h1, h5, h6, hlt, hget, wi, wp, hin, a1, e1, hn]
        · simp -dsimp [h0, h1, h5, h6, hlt, hget, wi, wp, hin, a1, hn]
    · have hn := bad (by simp only [markStep, if_neg k0, if_neg k1, if_neg k2, if_neg k3])
      have hin : inR t[i].kind 3 5 = false := inR_false.2 (by omega)
      simp -dsimp [h0, h1, h5, h6, hlt, hget, wi, wp, hv, k0, k1, k2]
      refine call_ (l1In_fn _ _ _) (by simp -dsimp <;> exact ⟨rfl, rfl, rfl⟩) ?_
      simp -dsimp [hin, hn]
  · rintro s ⟨i, parts, h0, h1, h6, h5, hi, hpi, hrun, hend⟩
    have := hend rfl
    subst this
    simp [marksRun] at hrun
    simp -dsimp [h0]
    refine call_ (l1In_fn _ _ _) (by simp -dsimp <;> exact ⟨rfl, rfl, rfl⟩) ?_
    have hpk : inR people 1 4 = peopleOk people := rfl
    have hk := ft (peopleOk people)
    rcases hk with hk | hk
    · simp -dsimp [hpk, hk, ← hrun]
    · by_cases e1 : parts = 1
      · have e2 : (parts : Int) = 1 := by omega
        simp -dsimp [h1, h5, e1, hpk, hk, ← hrun]; omega
      · have e2 : ¬ (parts : Int) = 1 := by omega
        simp -dsimp [h1, h5, e1, e2, hpk, hk, ← hrun]
end TL

/- Claims, stories, places: what is one. -/
set_option linter.unusedSimpArgs false
set_option linter.unusedVariables false
set_option maxRecDepth 100000
set_option maxHeartbeats 4000000
set_option pp.maxSteps 1500
namespace TL
open Go Go.Proofs
attribute [local simp] marksV storyV codeV Claim.v Place.v
theorem peopleOk_at (p : Int) : FnZ Try.prog 21 [.int .i64 p] (.bool (peopleOk p)) := peopleOk_fn p
def claimOk (people : Int) (c : Claim) : Bool := peopleOk people && decide (0 ≤ c.who) && decide (c.who < people) && termOk people c.says && decide (c.says.length ≤ 13)
def storyOk (people : Int) (story : List Claim) : Bool := story.all (claimOk people) && peopleOk people && decide (story.length ≤ 6)
def placeOk (p : Place) : Bool := storyOk p.people p.story
/-- Rows that fit into a machine. -/
def Claim.fine (c : Claim) : Prop := fits c.says ∧ c.says.length < 1000000000000
def Place.fine (p : Place) : Prop := p.story.length < 1000000000000 ∧ ∀ c ∈ p.story, c.fine
theorem claimOk_fn (people : Int) (c : Claim) : FnZ Try.prog 28 [.int .i64 people, c.v] (.bool (claimOk people c)) := by
  refine FnZ_of (rs := [.tmp 4]) false Try.func28 rfl rfl rfl rfl (Nat.le_of_ble_eq_true rfl) ?_
  have hk := ft (peopleOk people)
  rcases hk with hk | hk
  · simp -dsimp
    refine call_ (peopleOk_at people) (by simp -dsimp) ?_
    simp -dsimp [hk, claimOk]
  · by_cases h1 : 0 ≤ c.who
    case neg =>
      simp -dsimp
      refine call_ (peopleOk_at people) (by simp -dsimp) ?_
      simp -dsimp [hk, claimOk, h1]
    by_cases h2 : c.who < people
    case neg =>
      simp -dsimp
      refine call_ (peopleOk_at people) (by simp -dsimp) ?_
      simp -dsimp [hk, claimOk, h1, h2]
    simp -dsimp
    refine call_ (peopleOk_at people) (by simp -dsimp) ?_
    simp -dsimp [hk, h1, h2]
    refine call_ (termOk_fn people c.says) (by simp -dsimp) ?_
    have ht := ft (termOk people c.says)
    rcases ht with ht | ht
    · simp -dsimp [hk, claimOk, h1, h2, ht]
    · simp -dsimp [hk, claimOk, h1, h2, ht]
      omega
theorem claimOk_eq (people : Int) (c : Claim) : claimOk people c = (decide (0 ≤ c.who) && decide (c.who < people) && termOk people c.says && decide (c.says.length ≤ 13)) := by
  unfold claimOk termOk
  cases peopleOk people <;> simp
theorem claimOkS_fn (people : Int) (c : Claim) (hc : c.fine) : FnZ Try.prog 29 [.int .i64 people, c.v] (.bool (claimOk people c)) := by
  rw [claimOk_eq]
  refine FnZ_of (rs := [.tmp 4]) false Try.func29 rfl rfl rfl rfl (Nat.le_of_ble_eq_true rfl) ?_
  by_cases h1 : 0 ≤ c.who
  case neg => simp -dsimp [h1]
  by_cases h2 : c.who < people
  case neg => simp -dsimp [h1, h2]
  simp -dsimp [h1, h2]
  refine call_ (termOkS_fn people c.says hc.1 hc.2) (by simp -dsimp) ?_
  have ht := ft (termOk people c.says)
  rcases ht with ht | ht
  · simp -dsimp [h1, h2, ht]
  · simp -dsimp [h1, h2, ht]
    omega
def SOI (people : Int) (l : List Claim) (a b c : Nat) (e : Nat) (s : S) : Prop := ∃ i : Nat, s.tm 0 = .v (.int .i64 people) ∧ s.tm a = .v (.sl (l.map Claim.v)) ∧ (c = 0 ∨ s.tm c = .v (.int .i64 l.length)) ∧ s.tm 1 = .v (.sl (l.map Claim.v)) ∧ s.tm b = .v (.int .i64 i) ∧ i ≤ l.length ∧ (l.take i).all (claimOk people) = true ∧ (e = 1 → i = l.length)
theorem all_take_succ {α : Type} {l : List α} {f : α → Bool} {i : Nat} (h : i < l.length) : (l.take (i + 1)).all f = ((l.take i).all f && f l[i]) := by
  rw [List.take_succ_eq_append_getElem h]; simp only [List.all_append, List.all_cons, List.all_nil, Bool.and_true]
theorem all_bad {α : Type} {l : List α} {f : α → Bool} {i : Nat} (h : i < l.length) (hf : f l[i] = false) : l.all f = false := by
  rw [List.all_eq_false]; exact ⟨l[i], List.getElem_mem _, by simp [hf]⟩
theorem storyOk_fn (people : Int) (l : List Claim) (hl : l.length < 1000000000000) : FnZ Try.prog 19 [.int .i64 people, storyV l] (.bool (storyOk people l)) := by
  refine FnZ_of (rs := [.tmp 4]) false Try.func19 rfl rfl rfl rfl (Nat.le_of_ble_eq_true rfl) ?_
  simp -dsimp
  refine twp_loopC (SOI people l 7 9 8 0) (fun s => l.length - natOf (s.tm 9)) (SOI people l 7 9 8 1) ?_ ?_ ?_
  · exact ⟨0, by simp -dsimp, by simp -dsimp, .inr (by simp -dsimp), by simp -dsimp, by simp -dsimp, by simp, by simp, by simp⟩
  · rintro s ⟨i, h0, h7, h8, h1, h9, hi, hall, hend⟩
    have h8 := h8.resolve_left (by decide)
    by_cases hlt : i < l.length
    case neg =>
      simp -dsimp [h9, h8, hlt]
      exact ⟨i, by simp -dsimp [h0], by simp -dsimp [h7], .inr (by simp -dsimp [h8]), by simp -dsimp [h1], by simp -dsimp [h9], hi, hall, fun _ => by omega⟩
    have hget : (l.map Claim.v)[i]? = some l[i].v := by simp [hlt]
    have hcl : l[i].v = .agg [.int .i64 l[i].who, .sl (l[i].says.map Mark.v)] := rfl
    have hall' := all_take_succ (f := claimOk people) hlt
    have wi : IntKind.wrap .i64 ((i : Int) + 1) = ((i + 1 : Nat) : Int) := by rw [w64 (by omega) (by omega)]; omega
    have hmu : l.length - (i + 1) < l.length - i := by omega
    have hbad := all_bad (f := claimOk people) hlt
    simp -dsimp [h9, h8, h7, h0, hlt, hget]
    refine call_ (claimOk_fn people l[i]) (by simp -dsimp) ?_
    have hc := ft (claimOk people l[i])
    rcases hc with hc | hc
    · simp -dsimp [hc, storyOk, hbad hc]
    · simp -dsimp [hc, h9, wi, hmu]
      exact ⟨i + 1, by simp -dsimp [h0], by simp -dsimp [h7], .inr (by simp -dsimp [h8]), by simp -dsimp [h1], by simp -dsimp, by omega, by rw [hall', hall, hc]; rfl, by simp⟩
  · rintro s ⟨i, h0, h7, h8, h1, h9, hi, hall, hend⟩
    have := hend rfl
    subst this
    rw [List.take_length] at hall
    simp -dsimp [h0]
    refine call_ (peopleOk_at people) (by simp -dsimp) ?_
    have hk := ft (peopleOk people)
    rcases hk with hk | hk
    · simp -dsimp [storyOk, hk]
    · simp -dsimp [h1, storyOk, hk, hall]
      omega
theorem storyOkS_fn (people : Int) (l : List Claim) (hl : l.length < 1000000000000) (hf : ∀ c ∈ l, c.fine) : FnZ Try.prog 20 [.int .i64 people, storyV l] (.bool (storyOk people l)) := by
  refine FnZ_of (rs := [.tmp 4]) false Try.func20 rfl rfl rfl rfl (Nat.le_of_ble_eq_true rfl) ?_
  simp -dsimp
  refine twp_loopC (SOI people l 1 5 0 0) (fun s => l.length - natOf (s.tm 5)) (SOI people l 1 5 0 1) ?_ ?_ ?_
  · exact ⟨0, by simp -dsimp, by simp -dsimp, .inl rfl, by simp -dsimp, by simp -dsimp, by simp, by simp, by simp⟩
  · rintro s ⟨i, h0, h7, _, h1, h9, hi, hall, hend⟩
    by_cases hlt : i < l.length
    case neg =>
      simp -dsimp [h9, h1, hlt]
      exact ⟨i, by simp -dsimp [h0], by simp -dsimp [h7], .inl rfl, by simp -dsimp [h1], by simp -dsimp [h9], hi, hall, fun _ => by omega⟩
    have hget : (l.map Claim.v)[i]? = some l[i].v := by simp [hlt]
    have hcl : l[i].v = .agg [.int .i64 l[i].who, .sl (l[i].says.map Mark.v)] := rfl
    have hall' := all_take_succ (f := claimOk people) hlt
    have wi : IntKind.wrap .i64 ((i : Int) + 1) = ((i + 1 : Nat) : Int) := by rw [w64 (by omega) (by omega)]; omega
    have hmu : l.length - (i + 1) < l.length - i := by omega
    have hbad := all_bad (f := claimOk people) hlt
    simp -dsimp [h9, h1, h0, hlt, hget]
    refine call_ (claimOkS_fn people l[i] (hf _ (List.getElem_mem _))) (by simp -dsimp) ?_
    have hc := ft (claimOk people l[i])
    rcases hc with hc | hc
    · simp -dsimp [hc, storyOk, hbad hc]
    · simp -dsimp [hc, h9, wi, hmu]
      exact ⟨i + 1, by simp -dsimp [h0], by simp -dsimp [h7], .inl rfl, by simp -dsimp [h1], by simp -dsimp, by omega, by rw [hall', hall, hc]; rfl, by simp⟩
  · rintro s ⟨i, h0, h7, h8, h1, h9, hi, hall, hend⟩
    have := hend rfl
    subst this
    rw [List.take_length] at hall
    simp -dsimp [h0]
    refine call_ (l1In_fn people 1 4) (by simp -dsimp) ?_
    have hpk : inR people 1 4 = peopleOk people := rfl
    have hk := ft (peopleOk people)
    rcases hk with hk | hk
    · simp -dsimp [storyOk, hk, hpk]
    · simp -dsimp [h1, storyOk, hk, hall, hpk]
      omega
theorem placeOk_fn (p : Place) (hl : p.story.length < 1000000000000) : FnZ Try.prog 10 [p.v] (.bool (placeOk p)) := by
  refine FnZ_of (rs := [.tmp 2]) false Try.func10 rfl rfl rfl rfl (Nat.le_of_ble_eq_true rfl) ?_
  simp -dsimp
  refine call_ (storyOk_fn p.people p.story hl) (by simp -dsimp) ?_
  simp -dsimp [placeOk]
theorem placeOkS_fn (p : Place) (hp : p.fine) : FnZ Try.prog 11 [p.v] (.bool (placeOk p)) := by
  refine FnZ_of (rs := [.tmp 2]) false Try.func11 rfl rfl rfl rfl (Nat.le_of_ble_eq_true rfl) ?_
  simp -dsimp
  refine call_ (storyOkS_fn p.people p.story hp.1 hp.2) (by simp -dsimp) ?_
  simp -dsimp [placeOk]
end TL

/- Desks; what is one. -/
set_option linter.unusedSimpArgs false
set_option linter.unusedVariables false
set_option maxRecDepth 100000
set_option maxHeartbeats 4000000
set_option pp.maxSteps 1500
namespace TL
open Go Go.Proofs
attribute [local simp] marksV storyV codeV Claim.v Place.v
structure Desk where
  now : Place
  past : List Place
  deriving DecidableEq
def Desk.v (d : Desk) : V := .agg [.int .i64 d.now.people, storyV d.now.story, .sl (d.past.map Place.v)]
def Desk.small (d : Desk) : Prop := d.now.small ∧ d.past.length ≤ 1048576 ∧ ∀ p ∈ d.past, p.small
attribute [local simp] Desk.v
def deskOk (d : Desk) : Bool := d.past.all placeOk && placeOk d.now && decide (d.past.length ≤ 8)
def IdeskOk (d : Desk) (e : Nat) (s : S) : Prop := ∃ i : Nat, s.tm 1 = .ptr 0 0 ∧ s.m 0 = some (.box 28 3 [.v (.int .i64 d.now.people), .v (storyV d.now.story), .v (.sl (d.past.map Place.v))]) ∧ 1 ≤ s.n ∧ s.tm 6 = .v (.sl (d.past.map Place.v)) ∧ s.tm 7 = .v (.int .i64 d.past.length) ∧ s.tm 8 = .v (.int .i64 i) ∧
  i ≤ d.past.length ∧ (d.past.take i).all placeOk = true ∧ (e = 1 → i = d.past.length)
theorem deskOk_fn (d : Desk) (hl : d.past.length ≤ 1000000000000) (hn : d.now.story.length < 1000000000000) (hs : ∀ p ∈ d.past, p.story.length < 1000000000000) : FnZ Try.prog 5 [d.v] (.bool (deskOk d)) := by
  refine FnZ_of (rs := [.tmp 2]) false Try.func5 rfl rfl rfl rfl (Nat.le_of_ble_eq_true rfl) ?_
  simp -dsimp
  refine twp_loopC (IdeskOk d 0) (fun s => d.past.length - natOf (s.tm 8)) (IdeskOk d 1) ?_ ?_ ?_
  · exact ⟨0, by simp -dsimp, by simp -dsimp, by simp -dsimp, by simp -dsimp, by simp -dsimp, by simp -dsimp, by omega, by simp, by simp⟩
  · rintro s ⟨i, t1, m0, h1, t6, t7, t8, hi, hall, hend⟩
    by_cases hlt : i < d.past.length
    case neg =>
      simp -dsimp [t7, t8, hlt]
      exact ⟨i, by simp -dsimp [t1], by simp -dsimp [m0], by simp -dsimp; omega, by simp -dsimp [t6], by simp -dsimp [t7], by simp -dsimp [t8], hi, hall, fun _ => by omega⟩
    have hget : (d.past.map Place.v)[i]? = some (d.past[i].v) := by simp [hlt]
    have hall' := all_take_succ (f := placeOk) hlt
    have wi : IntKind.wrap .i64 ((i : Int) + 1) = ((i + 1 : Nat) : Int) := by rw [w64 (by omega) (by omega)]; omega
    have hmu : d.past.length - (i + 1) < d.past.length - i := by omega
    have hbad := all_bad (f := placeOk) hlt
    have f0 := far (show 0 < s.n by omega)
    simp -dsimp [t6, t7, t8, hlt, hget, f0, nes]
    refine call_ (placeOk_fn d.past[i] (hs _ (List.getElem_mem _))) (by simp -dsimp) ?_
    have hc := ft (placeOk d.past[i])
    rcases hc with hc | hc
    · simp -dsimp [hc, deskOk, hbad hc]
    · simp -dsimp [hc, t8, wi, hmu]
      exact ⟨i + 1, by simp -dsimp [t1], by simp -dsimp [m0, f0], by simp -dsimp, by simp -dsimp [t6], by simp -dsimp [t7], by simp -dsimp, by omega, by rw [hall', hall, hc]; rfl, by simp⟩
  · rintro s ⟨i, t1, m0, h1, t6, t7, t8, hi, hall, hend⟩
    have := hend rfl
    subst this
    rw [List.take_length] at hall
    simp -dsimp [t1, m0]
    refine call_ (placeOk_fn d.now hn) (by simp -dsimp) ?_
    have hk := ft (placeOk d.now)
    rcases hk with hk | hk
    · simp -dsimp [deskOk, hk]
    · simp -dsimp [t1, m0, deskOk, hk, hall]
      omega
end TL

/- Copies; desks. -/
set_option linter.unusedSimpArgs false
set_option linter.unusedVariables false
set_option maxRecDepth 100000
set_option maxHeartbeats 4000000
set_option pp.maxSteps 1500
namespace TL
open Go Go.Proofs
attribute [local simp] marksV storyV codeV Claim.v Place.v
attribute [local simp] Desk.v
def IsameMarks (a b : List Mark) (e : Nat) (s : S) : Prop := ∃ i : Nat, s.tm 0 = .v (.sl (a.map Mark.v)) ∧ s.tm 1 = .v (.sl (b.map Mark.v)) ∧ s.tm 5 = .v (.int .i64 i) ∧ i ≤ a.length ∧ a.take i = b.take i ∧ (e = 1 → i = a.length)
def IsameStory (a b : List Claim) (e : Nat) (s : S) : Prop := ∃ i : Nat, s.tm 0 = .v (.sl (a.map Claim.v)) ∧ s.tm 1 = .v (.sl (b.map Claim.v)) ∧ s.tm 5 = .v (.int .i64 i) ∧ i ≤ a.length ∧ a.take i = b.take i ∧ (e = 1 → i = a.length)
def IsameDesk (a b : Desk) (e : Nat) (s : S) : Prop := ∃ i : Nat, s.tm 2 = .ptr 0 0 ∧ s.tm 3 = .ptr 1 0 ∧ s.m 0 = some (.box 28 3 [.v (.int .i64 a.now.people), .v (storyV a.now.story), .v (.sl (a.past.map Place.v))]) ∧
  s.m 1 = some (.box 28 3 [.v (.int .i64 b.now.people), .v (storyV b.now.story), .v (.sl (b.past.map Place.v))]) ∧ s.tm 5 = .v (.int .i64 i) ∧ i ≤ a.past.length ∧ a.past.take i = b.past.take i ∧ (e = 1 → i = a.past.length)
def noDeskV : Desk := ⟨⟨0, []⟩, []⟩
def IcopyStory (l : List Claim) (e : Nat) (s : S) : Prop := ∃ i id : Nat, s.tm 7 = .v (.sl (l.map Claim.v)) ∧ s.tm 8 = .v (.int .i64 l.length) ∧ s.tm 9 = .v (.int .i64 i) ∧ s.mu = false ∧ i ≤ l.length ∧ s.tm 3 = .loc id ∧ id < s.n ∧ s.m id = some (.arr 53 ((l.take i).map Claim.v)) ∧ (e = 1 → i = l.length)
end TL

/- Desks. -/
set_option linter.unusedSimpArgs false
set_option linter.unusedVariables false
set_option maxRecDepth 100000
set_option maxHeartbeats 4000000
set_option pp.maxSteps 1500
namespace TL
open Go Go.Proofs
attribute [local simp] marksV storyV codeV Claim.v Place.v Desk.v
def Il15 (p : Place) (e : Nat) (s : S) : Prop := ∃ (i : Nat) (st : T) (z : List T), s.tm 1 = .ptr 0 0 ∧ s.tm 2 = .ptr 1 0 ∧ s.tm 3 = .ptr 2 0 ∧ s.tm 4 = .v (.int .i64 i) ∧ s.mu = false ∧ i ≤ p.story.length ∧ 3 ≤ s.n ∧
  s.m 0 = some (.box 25 2 [.v (.int .i64 p.people), .v (storyV p.story)]) ∧ s.m 1 = some (.box 25 2 z) ∧ z.length = 2 ∧ s.m 2 = some (.box 25 2 [.v (.int .i64 p.people), st]) ∧ IsRow s.m 3 s.n 53 st ((p.story.take i).map Claim.v) ∧ (e = 1 → i = p.story.length)
theorem l15Place_fn (p : Place) (hp : p.small) : FnZ Try.prog 22 [p.v] p.v := by
  have hl := hp.1
  refine FnZ_of (rs := [.cell 2 25]) false Try.func22 rfl rfl rfl rfl (Nat.le_of_ble_eq_true rfl) ?_
  simp -dsimp
  refine twp_loopC (Il15 p 0) (fun s => p.story.length - natOf (s.tm 4)) (Il15 p 1) ?_ ?_ ?_
  · exact ⟨0, .nil, [.v (.int .i64 0), .nil], by simp -dsimp, by simp -dsimp, by simp -dsimp, by simp -dsimp, by simp -dsimp, by omega, by simp -dsimp, by simp -dsimp, by simp -dsimp, rfl, by simp -dsimp, .inl ⟨rfl, by simp⟩, by simp⟩
  · rintro s ⟨i, st, z, t1, t2, t3, t4, hmu, hi, hn, m0, m1, hz, m2, hst, hend⟩
    by_cases hlt : i < p.story.length
    case neg =>
      simp -dsimp [t1, t4, m0, hlt]
      exact ⟨i, st, z, by simp -dsimp [t1], by simp -dsimp [t2], by simp -dsimp [t3], by simp -dsimp [t4], by simp -dsimp [hmu], hi, by simp -dsimp; omega, by simp -dsimp [m0], by simp -dsimp [m1], hz, by simp -dsimp [m2], hst, fun _ => by omega⟩
    have hget : (p.story.map Claim.v)[i]? = some (p.story[i].v) := by simp [hlt]
    have wi : IntKind.wrap .i64 ((i : Int) + 1) = ((i + 1 : Nat) : Int) := by rw [w64 (by omega) (by omega)]; omega
    have hmu1 : p.story.length - (i + 1) < p.story.length - i := by omega
    have f0 := far (show 0 < s.n by omega)
    have f1 := far (show 1 < s.n by omega)
    have f2 := far (show 2 < s.n by omega)
    have hsm := hp.2 p.story[i] (List.getElem_mem _)
    unfold Claim.small at hsm
    have b0 : p.story[i].says.length * 16 ≤ 140737488355328 := by omega
    have b1 : (min i p.story.length + 1) * 32 ≤ 140737488355328 := by omega
    have htk : (p.story.take (i + 1)).map Claim.v = (p.story.take i).map Claim.v ++ [p.story[i].v] := by rw [List.take_succ_eq_append_getElem hlt, List.map_append]; rfl
    simp -dsimp [t1, t4, m0, hlt]
    refine twp_draw [0, 1, 2, 3, 4, 5, 6, 7, 9, 10, 11, 12, 13, 14, 8, 15, 16, 17, 18, 19, 20] [0, 2] (List.replicate 21 [0, 1]) (List.replicate 20 [0, 1] ++ [[0]]) (by kernel_rfl) (by kernel_rfl) (by kernel_rfl) (by kernel_rfl) ?_
    rcases hst with ⟨rfl, hs0⟩ | ⟨id, rfl, hi0, hi1, him⟩
    · simp -dsimp [t1, t3, t4, m0, m2, hlt, hget, hmu, nes, f0, f1, f2, b0, wi, hmu1]
      have hi00 : i = 0 := by
        simp at hs0; rcases hs0 with h | h
        · exact h
        · rw [h] at hlt; simp at hlt
      subst hi00
      refine st_out fun s' ht hm' hn' hu' => ?_
      have q1 := ht 1
      have q2 := ht 2
      have q3 := ht 3
      have q4 := ht 4
      simp -dsimp [t1, t2, t3] at q1 q2 q3 q4 hm' hn' hu'
      clear ht
      have hn0 : ¬ s.n = 0 := by omega
      have hn1 : ¬ s.n = 1 := by omega
      refine ⟨1, .loc (s.n + 1 + 1 + 1), z, q1, q2, q3, q4, by rw [hu', hmu], by omega, by omega, by simp [hm', hn0, hn1, f0, m0], by simp [hm', hn0, hn1, f1, m1], hz, by simp [hm', hn0, hn1], .inr ⟨s.n + 1 + 1 + 1, rfl, by omega, by omega, ?_⟩, by simp⟩
      rw [htk]; simp [hm', hn0, hn1, f2]
    · have g1 := far hi1
      have g2 : ¬ id = 2 := by omega
      have g0 : ¬ id = 0 := by omega
      have g3 : ¬ id = 1 := by omega
      simp -dsimp [t1, t3, t4, m0, m2, hlt, hget, hmu, nes, f0, f1, f2, b0, b1, g1, g2, g0, g3, Ne.symm g0, Ne.symm g2, Ne.symm g3, him, wi, hmu1]
      refine st_out fun s' ht hm' hn' hu' => ?_
      have q1 := ht 1
      have q2 := ht 2
      have q3 := ht 3
      have q4 := ht 4
      simp -dsimp [t1, t2, t3] at q1 q2 q3 q4 hm' hn' hu'
      clear ht
      have hn0 : ¬ s.n = 0 := by omega
      have hn1 : ¬ s.n = 1 := by omega
      refine ⟨i + 1, .loc (s.n + 1 + 1 + 1), z, q1, q2, q3, q4, by rw [hu', hmu], by omega, by omega, by simp [hm', hn0, hn1, f0, m0, Ne.symm g0], by simp [hm', hn0, hn1, f1, m1, Ne.symm g3], hz, by simp [hm', hn0, hn1], .inr ⟨s.n + 1 + 1 + 1, rfl, by omega, by omega, ?_⟩, by simp⟩
      rw [htk]; simp [hm', hn0, hn1, f2, nes]
  · rintro s ⟨i, st, z, t1, t2, t3, t4, hmu, hi, hn, m0, m1, hz, m2, hst, hend⟩
    have := hend rfl
    subst this
    rw [List.take_length] at hst
    obtain ⟨z0, z1, rfl⟩ : ∃ a b, z = [a, b] := by
      match z, hz with
      | [a, b], _ => exact ⟨a, b, rfl⟩
    rcases hst with ⟨rfl, hs0⟩ | ⟨id, rfl, hi0, hi1, him⟩
    · simp -dsimp [t2, t3, m1, m2, hs0]
    · have g3 : ¬ id = 1 := by omega
      simp -dsimp [t2, t3, m1, m2, him, g3]
def deskNew (p : Place) : Desk := if placeOk p then ⟨p, []⟩ else noDeskV
theorem deskNewS_fn (p : Place) (hp : p.small) (hf : p.fit) : FnZ Try.prog 13 [p.v] (.tup [(deskNew p).v, .bool (placeOk p)]) := by
  have fine : p.fine := ⟨by have := hp.1; omega, fun c hc => ⟨(hf.2 c hc).2, by have := hp.2 c hc; unfold Claim.small at this; omega⟩⟩
  refine FnZ_of (rs := [.cell 2 28, .tmp 3]) false Try.func13 rfl rfl rfl rfl (Nat.le_of_ble_eq_true rfl) ?_
  simp -dsimp
  refine call_ (placeOkS_fn p fine) (by simp -dsimp) ?_
  have hk := ft (placeOk p)
  rcases hk with hk | hk
  · simp -dsimp [hk, deskNew, noDeskV]
  · simp -dsimp [hk]
    refine call_ (l15Place_fn p hp) (by simp -dsimp) ?_
    simp -dsimp [deskNew, hk]
end TL

/- Copies of places and desks, as rows of the caller's own. -/
set_option linter.unusedSimpArgs false
set_option linter.unusedVariables false
set_option maxRecDepth 100000
set_option maxHeartbeats 4000000
set_option pp.maxSteps 1500
namespace TL
open Go Go.Proofs
attribute [local simp] marksV storyV codeV Claim.v Place.v Desk.v
/-- A place whose row of claims is the caller's own. -/
def OwnPlace (p : Place) (m : Mem) (n : Nat) (t : T) (m' : Mem) (n' : Nat) : Prop := n ≤ n' ∧ (∀ j, j < n → m' j = m j) ∧ ∃ st, t = .agg [.v (.int .i64 p.people), st] ∧ IsRow m' n n' 53 st (p.story.map Claim.v)
def Io15 (p : Place) (m : Mem) (n : Nat) (e : Nat) (s : S) : Prop := ∃ (i : Nat) (st : T) (z : List T), s.tm 1 = .ptr n 0 ∧ s.tm 2 = .ptr (n + 1) 0 ∧ s.tm 3 = .ptr (n + 2) 0 ∧ s.tm 4 = .v (.int .i64 i) ∧ s.mu = false ∧ i ≤ p.story.length ∧ n + 3 ≤ s.n ∧
  s.m n = some (.box 25 2 [.v (.int .i64 p.people), .v (storyV p.story)]) ∧ s.m (n + 1) = some (.box 25 2 z) ∧ z.length = 2 ∧ s.m (n + 2) = some (.box 25 2 [.v (.int .i64 p.people), st]) ∧ IsRow s.m (n + 3) s.n 53 st ((p.story.take i).map Claim.v) ∧ (∀ j, j < n → s.m j = m j) ∧ (e = 1 → i = p.story.length)
theorem l15Place_own (p : Place) (hp : p.small) (m : Mem) (n : Nat) : FnS Try.prog 22 m n [.v p.v] (OwnPlace p m n) := by
  have hl := hp.1
  refine FnS_of (rs := [.cell 2 25]) false Try.func22 rfl rfl rfl rfl (Nat.le_of_ble_eq_true rfl) ?_
  have e0 : ¬ n = n + 1 := by omega
  have e1 : ¬ n = n + 2 := by omega
  have e2 : ¬ n + 1 = n + 2 := by omega
  have e3 : ¬ n + 2 = n := by omega
  have e4 : ¬ n + 2 = n + 1 := by omega
  have e5 : ¬ n + 1 = n := by omega
  simp -dsimp
  refine twp_loopC (Io15 p m n 0) (fun s => p.story.length - natOf (s.tm 4)) (Io15 p m n 1) ?_ ?_ ?_
  · refine ⟨0, .nil, [.v (.int .i64 0), .nil], by simp -dsimp, by simp -dsimp, by simp -dsimp, by simp -dsimp, by simp -dsimp, by omega, by simp -dsimp, by simp -dsimp [nes], by simp -dsimp [nes], rfl, by simp -dsimp, .inl ⟨rfl, by simp⟩, fun j j1 => ?_, by simp⟩
    simp -dsimp [far j1]
  · rintro s ⟨i, st, z, t1, t2, t3, t4, hmu, hi, hn, m0, m1, hz, m2, hst, hout, hend⟩
    by_cases hlt : i < p.story.length
    case neg =>
      simp -dsimp [t1, t4, m0, hlt]
      exact ⟨i, st, z, by simp -dsimp [t1], by simp -dsimp [t2], by simp -dsimp [t3], by simp -dsimp [t4], by simp -dsimp [hmu], hi, by simp -dsimp; omega, by simp -dsimp [m0], by simp -dsimp [m1], hz, by simp -dsimp [m2], hst, fun j j1 => by simp -dsimp [hout j j1], fun _ => by omega⟩
    have hget : (p.story.map Claim.v)[i]? = some (p.story[i].v) := by simp [hlt]
    have wi : IntKind.wrap .i64 ((i : Int) + 1) = ((i + 1 : Nat) : Int) := by rw [w64 (by omega) (by omega)]; omega
    have hmu1 : p.story.length - (i + 1) < p.story.length - i := by omega
    have f0 := far (show n < s.n by omega)
    have f1 := far (show n + 1 < s.n by omega)
    have f2 := far (show n + 2 < s.n by omega)
    have hsm := hp.2 p.story[i] (List.getElem_mem _)
    unfold Claim.small at hsm
    have b0 : p.story[i].says.length * 16 ≤ 140737488355328 := by omega
    have b1 : (min i p.story.length + 1) * 32 ≤ 140737488355328 := by omega
    have htk : (p.story.take (i + 1)).map Claim.v = (p.story.take i).map Claim.v ++ [p.story[i].v] := by rw [List.take_succ_eq_append_getElem hlt, List.map_append]; rfl
    simp -dsimp [t1, t4, m0, hlt]
    refine twp_draw [0, 1, 2, 3, 4, 5, 6, 7, 9, 10, 11, 12, 13, 14, 8, 15, 16, 17, 18, 19, 20] [n, n + 2] (List.replicate 21 [0, 1]) (List.replicate 20 [0, 1] ++ [[0]]) (by kernel_rfl) (by kernel_rfl) (by kernel_rfl) (by kernel_rfl) ?_
    rcases hst with ⟨rfl, hs0⟩ | ⟨id, rfl, hi0, hi1, him⟩
    · simp -dsimp [t1, t3, t4, m0, m2, hlt, hget, hmu, nes, f0, f1, f2, e0, e1, e2, e3, e4, e5, b0, wi, hmu1]
      have hi00 : i = 0 := by
        simp at hs0; rcases hs0 with h | h
        · exact h
        · rw [h] at hlt; simp at hlt
      subst hi00
      refine st_out fun s' ht hm' hn' hu' => ?_
      have q1 := ht 1
      have q2 := ht 2
      have q3 := ht 3
      have q4 := ht 4
      simp -dsimp [t1, t2, t3] at q1 q2 q3 q4 hm' hn' hu'
      clear ht
      refine ⟨1, .loc (s.n + 1 + 1 + 1), z, q1, q2, q3, q4, by rw [hu', hmu], by omega, by omega, by simp [hm', nes, e0, e1, f0, m0], by simp [hm', nes, e2, f0, f1, m1], hz, by simp [hm', nes, f2], .inr ⟨s.n + 1 + 1 + 1, rfl, by omega, by omega, ?_⟩, fun j j1 => ?_, by simp⟩
      · rw [htk]; simp [hm', nes, f0, f2]
      · simp [hm', far (show j < s.n by omega), show ¬ j = n + 2 by omega, hout j j1]
    · have g1 := far hi1
      have g2 : ¬ id = n + 2 := by omega
      have g0 : ¬ id = n := by omega
      have g3 : ¬ id = n + 1 := by omega
      simp -dsimp [t1, t3, t4, m0, m2, hlt, hget, hmu, nes, f0, f1, f2, e0, e1, e2, e3, e4, e5, b0, b1, g1, g2, g0, g3, Ne.symm g0, Ne.symm g2, Ne.symm g3, him, wi, hmu1]
      refine st_out fun s' ht hm' hn' hu' => ?_
      have q1 := ht 1
      have q2 := ht 2
      have q3 := ht 3
      have q4 := ht 4
      simp -dsimp [t1, t2, t3] at q1 q2 q3 q4 hm' hn' hu'
      clear ht
      refine ⟨i + 1, .loc (s.n + 1 + 1 + 1), z, q1, q2, q3, q4, by rw [hu', hmu], by omega, by omega, by simp [hm', nes, e0, e1, f0, m0, Ne.symm g0], by simp [hm', nes, e2, f0, f1, m1, Ne.symm g3], hz, by simp [hm', nes, f2], .inr ⟨s.n + 1 + 1 + 1, rfl, by omega, by omega, ?_⟩, fun j j1 => ?_, by simp⟩
      · rw [htk]; simp [hm', f0, f2, nes]
      · simp [hm', far (show j < s.n by omega), show ¬ j = n + 2 by omega, show ¬ j = id by omega, hout j j1]
  · rintro s ⟨i, st, z, t1, t2, t3, t4, hmu, hi, hn, m0, m1, hz, m2, hst, hout, hend⟩
    have := hend rfl
    subst this
    rw [List.take_length] at hst
    have f1 := far (show n + 1 < s.n by omega)
    obtain ⟨z0, z1, rfl⟩ : ∃ a b, z = [a, b] := by
      match z, hz with
      | [a, b], _ => exact ⟨a, b, rfl⟩
    rcases hst with ⟨rfl, hs0⟩ | ⟨id, rfl, hi0, hi1, him⟩
    · simp -dsimp [t2, t3, m1, m2, e2, e4]
      exact ⟨by omega, fun j j1 => by simp [show ¬ j = n + 1 by omega, hout j j1], .nil, rfl, .inl ⟨rfl, hs0⟩⟩
    · have g3 : ¬ id = n + 1 := by omega
      simp -dsimp [t2, t3, m1, m2, e2, e4]
      exact ⟨by omega, fun j j1 => by simp [show ¬ j = n + 1 by omega, hout j j1], .loc id, rfl, .inr ⟨id, rfl, by omega, by omega, by simp [g3, him]⟩⟩
end TL

/- Copies of desks. -/
set_option linter.unusedSimpArgs false
set_option linter.unusedVariables false
set_option maxRecDepth 100000
set_option maxHeartbeats 4000000
set_option pp.maxSteps 1500
namespace TL
open Go Go.Proofs
attribute [local simp] marksV storyV codeV Claim.v Place.v Desk.v
def OwnDesk (d : Desk) (m : Mem) (n : Nat) (t : T) (m' : Mem) (n' : Nat) : Prop := n ≤ n' ∧ (∀ j, j < n → m' j = m j) ∧ ∃ st, t = .agg [.v (.int .i64 d.now.people), .v (storyV d.now.story), st] ∧ IsRow m' n n' 25 st (d.past.map Place.v)
def Iod (d : Desk) (m : Mem) (n : Nat) (e : Nat) (s : S) : Prop := ∃ (i : Nat) (st : T), s.tm 1 = .ptr n 0 ∧ s.tm 2 = .ptr (n + 1) 0 ∧ s.tm 3 = .ptr (n + 2) 0 ∧ s.tm 4 = .v (.int .i64 i) ∧ s.mu = false ∧ i ≤ d.past.length ∧ n + 3 ≤ s.n ∧
  s.m n = some (.box 28 3 [.v (.int .i64 d.now.people), .v (storyV d.now.story), .v (.sl (d.past.map Place.v))]) ∧ s.m (n + 1) = some (.box 28 3 [.v (.int .i64 0), .nil, .nil]) ∧
  s.m (n + 2) = some (.box 28 3 [.v (.int .i64 d.now.people), .v (storyV d.now.story), st]) ∧ IsRow s.m (n + 3) s.n 25 st ((d.past.take i).map Place.v) ∧ (∀ j, j < n → s.m j = m j) ∧ (e = 1 → i = d.past.length)
theorem l15Copy_own (d : Desk) (hd : d.small) (m : Mem) (n : Nat) : FnS Try.prog 24 m n [.v d.v] (OwnDesk d m n) := by
  have hl := hd.2.1
  refine FnS_of (rs := [.cell 2 28]) false Try.func24 rfl rfl rfl rfl (Nat.le_of_ble_eq_true rfl) ?_
  have e0 : ¬ n = n + 1 := by omega
  have e1 : ¬ n = n + 2 := by omega
  have e2 : ¬ n + 1 = n + 2 := by omega
  have e3 : ¬ n + 2 = n := by omega
  have e4 : ¬ n + 2 = n + 1 := by omega
  have e5 : ¬ n + 1 = n := by omega
  simp -dsimp
  refine call_ (l15Place_fn d.now hd.1) (by simp -dsimp) ?_
  simp -dsimp [e0, e1, e2, e3, e4, e5, nes]
  refine twp_loopC (Iod d m n 0) (fun s => d.past.length - natOf (s.tm 4)) (Iod d m n 1) ?_ ?_ ?_
  · refine ⟨0, .nil, by simp -dsimp, by simp -dsimp, by simp -dsimp, by simp -dsimp, by simp -dsimp, by omega, by simp -dsimp, by simp -dsimp [nes], by simp -dsimp [nes], by simp -dsimp, .inl ⟨rfl, by simp⟩, fun j j1 => ?_, by simp⟩
    simp -dsimp [far j1]
  · rintro s ⟨i, st, t1, t2, t3, t4, hmu, hi, hn, m0, m1, m2, hst, hout, hend⟩
    by_cases hlt : i < d.past.length
    case neg =>
      simp -dsimp [t1, t4, m0, hlt]
      exact ⟨i, st, by simp -dsimp [t1], by simp -dsimp [t2], by simp -dsimp [t3], by simp -dsimp [t4], by simp -dsimp [hmu], hi, by simp -dsimp; omega, by simp -dsimp [m0], by simp -dsimp [m1], by simp -dsimp [m2], hst, fun j j1 => by simp -dsimp [hout j j1], fun _ => by omega⟩
    have hget : (d.past.map Place.v)[i]? = some (d.past[i].v) := by simp [hlt]
    have wi : IntKind.wrap .i64 ((i : Int) + 1) = ((i + 1 : Nat) : Int) := by rw [w64 (by omega) (by omega)]; omega
    have hmu1 : d.past.length - (i + 1) < d.past.length - i := by omega
    have f0 := far (show n < s.n by omega)
    have f1 := far (show n + 1 < s.n by omega)
    have f2 := far (show n + 2 < s.n by omega)
    have hsm := hd.2.2 d.past[i] (List.getElem_mem _)
    have hpl := l15Place_fn d.past[i] hsm
    have b1 : (min i d.past.length + 1) * 32 ≤ 140737488355328 := by omega
    have htk : (d.past.take (i + 1)).map Place.v = (d.past.take i).map Place.v ++ [d.past[i].v] := by rw [List.take_succ_eq_append_getElem hlt, List.map_append]; rfl
    simp -dsimp [t1, t4, m0, hlt]
    refine twp_draw (List.range 12) [n, n + 2] (List.replicate 12 [0, 1]) (List.replicate 11 [0, 1] ++ [[0]]) (by kernel_rfl) (by kernel_rfl) (by kernel_rfl) (by kernel_rfl) ?_
    rcases hst with ⟨rfl, hs0⟩ | ⟨id, rfl, hi0, hi1, him⟩
    · simp -dsimp [List.range_succ, t1, t3, t4, m0, m2, hlt, hget, nes, f0, f1, f2, e0, e1, e2, e3, e4, e5]
      refine call_ hpl (by simp -dsimp) ?_
      simp -dsimp [List.range_succ, t1, t3, t4, m0, m2, hlt, hget, hmu, nes, f0, f1, f2, e0, e1, e2, e3, e4, e5, wi, hmu1]
      have hi00 : i = 0 := by
        simp at hs0; rcases hs0 with h | h
        · exact h
        · rw [h] at hlt; simp at hlt
      subst hi00
      refine st_out fun s' ht hm' hn' hu' => ?_
      have q1 := ht 1
      have q2 := ht 2
      have q3 := ht 3
      have q4 := ht 4
      simp -dsimp [t1, t2, t3] at q1 q2 q3 q4 hm' hn' hu'
      clear ht
      refine ⟨1, .loc (s.n + 1), q1, q2, q3, q4, by rw [hu', hmu], by omega, by omega, by simp [hm', nes, e0, e1, f0, m0], by simp [hm', nes, e2, f0, f1, m1], by simp [hm', nes, f2], .inr ⟨s.n + 1, rfl, by omega, by omega, ?_⟩, fun j j1 => ?_, by simp⟩
      · rw [htk]; simp [hm', nes, f0, f1, f2]
      · simp [hm', far (show j < s.n by omega), show ¬ j = n + 2 by omega, hout j j1]
    · have g1 := far hi1
      have g2 : ¬ id = n + 2 := by omega
      have g0 : ¬ id = n := by omega
      have g3 : ¬ id = n + 1 := by omega
      simp -dsimp [List.range_succ, t1, t3, t4, m0, m2, hlt, hget, nes, f0, f1, f2, e0, e1, e2, e3, e4, e5]
      refine call_ hpl (by simp -dsimp) ?_
      simp -dsimp [List.range_succ, t1, t3, t4, m0, m2, hlt, hget, hmu, nes, f0, f1, f2, e0, e1, e2, e3, e4, e5, b1, g1, g2, g0, g3, Ne.symm g0, Ne.symm g2, Ne.symm g3, him, wi, hmu1]
      refine st_out fun s' ht hm' hn' hu' => ?_
      have q1 := ht 1
      have q2 := ht 2
      have q3 := ht 3
      have q4 := ht 4
      simp -dsimp [t1, t2, t3] at q1 q2 q3 q4 hm' hn' hu'
      clear ht
      refine ⟨i + 1, .loc (s.n + 1), q1, q2, q3, q4, by rw [hu', hmu], by omega, by omega, by simp [hm', nes, e0, e1, f0, m0, Ne.symm g0], by simp [hm', nes, e2, f0, f1, m1, Ne.symm g3], by simp [hm', nes, f2], .inr ⟨s.n + 1, rfl, by omega, by omega, ?_⟩, fun j j1 => ?_, by simp⟩
      · rw [htk]; simp [hm', f0, f1, f2, nes]
      · simp [hm', far (show j < s.n by omega), show ¬ j = n + 2 by omega, show ¬ j = id by omega, hout j j1]
  · rintro s ⟨i, st, t1, t2, t3, t4, hmu, hi, hn, m0, m1, m2, hst, hout, hend⟩
    have := hend rfl
    subst this
    rw [List.take_length] at hst
    have f1 := far (show n + 1 < s.n by omega)
    rcases hst with ⟨rfl, hs0⟩ | ⟨id, rfl, hi0, hi1, him⟩
    · simp -dsimp [t2, t3, m1, m2, e2, e4]
      exact ⟨by omega, fun j j1 => by simp [show ¬ j = n + 1 by omega, hout j j1], .nil, rfl, .inl ⟨rfl, hs0⟩⟩
    · have g3 : ¬ id = n + 1 := by omega
      simp -dsimp [t2, t3, m1, m2, e2, e4]
      exact ⟨by omega, fun j j1 => by simp [show ¬ j = n + 1 by omega, hout j j1], .loc id, rfl, .inr ⟨id, rfl, by omega, by omega, by simp [g3, him]⟩⟩
end TL

/- TL, part 22: contracts over abstract memory, called with rows of the caller's own. -/
set_option linter.unusedVariables false
set_option linter.unusedSimpArgs false
namespace TL
open Go Go.RowKit
variable {P : Program}
/-- A contract for pure arguments serves for rows that nobody changes, too. -/
theorem FnS.lend {f : Nat} {m : Mem} {n : Nat} {args : List T} {vs : List V} {post : T → Mem → Nat → Prop} (h : FnS P f m n (vs.map .v) post) (ha : mapO (bor false m 4) args = some vs) : FnS P f m n args post :=
  ⟨h.1, fun φ Z w us hm hr => h.2 φ Z w us hm (bors_sound hm (k := false) (Zb := Z) (fun _ _ h => h) (by simp) args us vs hr ha).toTs⟩
theorem callL_ {f : Nat} {m : Mem} {n : Nat} {args : List T} {vs : List V} {k : T → Mem → Nat → Prop} {post : T → Mem → Nat → Prop} (h : FnS P f m n (vs.map .v) post) (ha : mapO (bor false m 4) args = some vs) (hk : ∀ t m' n', post t m' n' → k t m' n') : callP P f m n args k := callS_ (h.lend ha) hk
end TL

/- Rows of places as cells that may change. -/
set_option linter.unusedSimpArgs false
set_option linter.unusedVariables false
set_option maxRecDepth 100000
set_option maxHeartbeats 4000000
set_option pp.maxSteps 1500
namespace TL
open Go Go.Proofs
def plT : List Place → List T
  | [] => []
  | p :: l => .v (.int .i64 p.people) :: .v (storyV p.story) :: plT l
@[simp] theorem plT_nil : plT [] = [] := rfl
theorem plT_append (a b : List Place) : plT (a ++ b) = plT a ++ plT b := by
  induction a with
  | nil => rfl
  | cons x xs ih => simp [plT, ih]
@[simp] theorem plT_length (a : List Place) : (plT a).length = a.length * 2 := by
  induction a with
  | nil => rfl
  | cons x xs ih => simp [plT, ih]; omega
theorem plT_take_ex (a : List Place) (ex : List T) : (plT a ++ ex).take (a.length * 2) = plT a := List.take_left' (by simp)
theorem plT_one (p : Place) : [T.v (.int .i64 p.people), T.v (storyV p.story)] = plT [p] := rfl
@[simp] theorem plT_cells (a : List Place) : allC (plT a) := by
  induction a with
  | nil => simp
  | cons x xs ih => simp [plT, storyV]; exact ih
theorem plT_get {l : List Place} {ex : List T} {k : Nat} (h : k < l.length) : ((plT l ++ ex).drop (k * 2)).take 2 = [.v (.int .i64 l[k].people), .v (storyV l[k].story)] := by
  have e : l = l.take k ++ l[k] :: l.drop (k + 1) := by rw [← List.drop_eq_getElem_cons h, List.take_append_drop]
  have e2 : plT l = plT (l.take k) ++ ([.v (.int .i64 l[k].people), .v (storyV l[k].story)] ++ plT (l.drop (k + 1))) := by
    conv => lhs; rw [e, plT_append]
    rfl
  rw [e2, List.append_assoc, List.drop_left' (by simp; omega)]
  rfl
theorem plT_take {l : List Place} {ex : List T} {j : Nat} (h : j ≤ l.length) : (plT l ++ ex).take (j * 2) = plT (l.take j) := by
  have e : plT l = plT (l.take j) ++ plT (l.drop j) := by rw [← plT_append, List.take_append_drop]
  rw [e, List.append_assoc, List.take_left' (by simp; omega)]
theorem plT_bor (k : Bool) (m : Mem) (d : Nat) (l : List Place) : mapO (bor k m d) (plT l) = some (l.flatMap fun p => p.v.cells) := by
  induction l with
  | nil => rfl
  | cons p l ih => simp [plT, mapO, ih, Place.v, V.cells]
theorem plV_cell (l : List Place) : ∀ x ∈ (l.flatMap fun p => p.v.cells), x.cell = true := by
  intro x hx
  obtain ⟨p, _, hp⟩ := List.mem_flatMap.1 hx
  simp [Place.v, V.cells, storyV] at hp
  rcases hp with rfl | rfl <;> rfl
theorem plV_chunk (l : List Place) : chunk 2 l.length (l.flatMap fun p => p.v.cells) = l.map Place.v := chunk_elems (v := Place.v) (k := 2) elemOk_place l
end TL

/- Copies of desks, past places as cells that may change: the reference. -/
set_option linter.unusedSimpArgs false
set_option linter.unusedVariables false
set_option maxRecDepth 100000
set_option maxHeartbeats 4000000
set_option pp.maxSteps 1500
namespace TL
open Go Go.Proofs
attribute [local simp] marksV storyV codeV Claim.v Place.v Desk.v
def PastT (m : Mem) (lo hi : Nat) (P : T) (l : List Place) : Prop := (P = .nil ∧ l = []) ∨ ∃ id ex, P = .sv id 0 l.length ∧ lo ≤ id ∧ id < hi ∧ m id = some (.box 25 2 (plT l ++ ex))
def OwnDeskM (d : Desk) (m : Mem) (n : Nat) (t : T) (m' : Mem) (n' : Nat) : Prop := n ≤ n' ∧ (∀ j, j < n → m' j = m j) ∧ ∃ st, t = .agg [.v (.int .i64 d.now.people), .v (storyV d.now.story), st] ∧ PastT m' n n' st d.past
def Iom (d : Desk) (P : T) (m : Mem) (n : Nat) (e : Nat) (s : S) : Prop := ∃ (i : Nat) (st : T), s.tm 1 = .ptr n 0 ∧ s.tm 2 = .ptr (n + 1) 0 ∧ s.tm 3 = .ptr (n + 2) 0 ∧ s.tm 4 = .v (.int .i64 i) ∧ s.mu = true ∧ i ≤ d.past.length ∧ n + 3 ≤ s.n ∧
  s.m n = some (.box 28 3 [.v (.int .i64 d.now.people), .v (storyV d.now.story), P]) ∧ s.m (n + 1) = some (.box 28 3 [.v (.int .i64 0), .nil, .nil]) ∧
  s.m (n + 2) = some (.box 28 3 [.v (.int .i64 d.now.people), .v (storyV d.now.story), st]) ∧ PastT s.m (n + 3) s.n st (d.past.take i) ∧ (∀ j, j < n → s.m j = m j) ∧ (e = 1 → i = d.past.length)
theorem l15Copy_mut (d : Desk) (hd : d.small) (P : T) (m : Mem) (n : Nat) (hP : PastT m 0 n P d.past) : FnS Try.prog 24 m n [.agg [.v (.int .i64 d.now.people), .v (storyV d.now.story), P]] (OwnDeskM d m n) := by
  have hl := hd.2.1
  refine FnS_of (rs := [.cell 2 28]) true Try.func24 rfl rfl rfl rfl (Nat.le_of_ble_eq_true rfl) ?_
  have e0 : ¬ n = n + 1 := by omega
  have e1 : ¬ n = n + 2 := by omega
  have e2 : ¬ n + 1 = n + 2 := by omega
  have e3 : ¬ n + 2 = n := by omega
  have e4 : ¬ n + 2 = n + 1 := by omega
  have e5 : ¬ n + 1 = n := by omega
  have hPc : P.cell = true := by rcases hP with ⟨rfl, _⟩ | ⟨id, ex, rfl, _⟩ <;> rfl
  have hPb : ∀ d, bor true m d P = none ∨ True := fun _ => .inr trivial
  simp -dsimp [hPc]
  refine call_ (l15Place_fn d.now hd.1) (by simp -dsimp) ?_
  simp -dsimp [e0, e1, e2, e3, e4, e5, nes, hPc]
  refine twp_loopC (Iom d P m n 0) (fun s => d.past.length - natOf (s.tm 4)) (Iom d P m n 1) ?_ ?_ ?_
  · refine ⟨0, .nil, by simp -dsimp, by simp -dsimp, by simp -dsimp, by simp -dsimp, by simp -dsimp, by omega, by simp -dsimp, by simp -dsimp [nes], by simp -dsimp [nes], by simp -dsimp, .inl ⟨rfl, by simp⟩, fun j j1 => ?_, by simp⟩
    simp -dsimp [far j1]
  · rintro s ⟨i, st, t1, t2, t3, t4, hmu, hi, hn, m0, m1, m2, hst, hout, hend⟩
    have hlen : slLen s.m P = some d.past.length := by
      rcases hP with ⟨rfl, h0⟩ | ⟨id, ex, rfl, _⟩
      · rw [h0]; rfl
      · rfl
    by_cases hlt : i < d.past.length
    case neg =>
      rcases hP with ⟨rfl, h0⟩ | ⟨pid, ex, rfl, hp0, hp1, hpm⟩
      · have h00 : d.past.length = 0 := by rw [h0]; rfl
        have i0 : i = 0 := by omega
        simp -dsimp [t1, t4, m0, i0]
        exact ⟨0, st, by simp -dsimp [t1], by simp -dsimp [t2], by simp -dsimp [t3], by simp -dsimp [t4, i0], by simp -dsimp [hmu], by omega, by simp -dsimp; omega, by simp -dsimp [m0], by simp -dsimp [m1], by simp -dsimp [m2], by rw [i0] at hst; exact hst, fun j j1 => by simp -dsimp [hout j j1], fun _ => by omega⟩
      · simp -dsimp [t1, t4, m0, hlt]
        exact ⟨i, st, by simp -dsimp [t1], by simp -dsimp [t2], by simp -dsimp [t3], by simp -dsimp [t4], by simp -dsimp [hmu], hi, by simp -dsimp; omega, by simp -dsimp [m0], by simp -dsimp [m1], by simp -dsimp [m2], hst, fun j j1 => by simp -dsimp [hout j j1], fun _ => by omega⟩
    rcases hP with ⟨rfl, h0⟩ | ⟨pid, ex, rfl, hp0, hp1, hpm⟩
    · rw [h0] at hlt; simp at hlt
    have hpm' : s.m pid = some (.box 25 2 (plT d.past ++ ex)) := by rw [hout pid hp1]; exact hpm
    have hget := plT_get (ex := ex) hlt
    have hgl : i * 2 + 2 ≤ (plT d.past ++ ex).length := by simp; omega
    have hgl2 : i * 2 + 2 ≤ d.past.length * 2 + ex.length := by omega
    have wi : IntKind.wrap .i64 ((i : Int) + 1) = ((i + 1 : Nat) : Int) := by rw [w64 (by omega) (by omega)]; omega
    have hmu1 : d.past.length - (i + 1) < d.past.length - i := by omega
    have f0 := far (show n < s.n by omega)
    have f1 := far (show n + 1 < s.n by omega)
    have f2 := far (show n + 2 < s.n by omega)
    have f3 := far (show pid < s.n by omega)
    have d0 : ¬ pid = n := by omega
    have d1 : ¬ pid = n + 1 := by omega
    have d2 : ¬ pid = n + 2 := by omega
    have hsm := hd.2.2 d.past[i] (List.getElem_mem _)
    have hpl := l15Place_fn d.past[i] hsm
    have b1 : (min i d.past.length + 1) * 32 ≤ 140737488355328 := by omega
    have b2 : (i + 1) * 32 ≤ 140737488355328 := by omega
    have htk : plT (d.past.take (i + 1)) = plT (d.past.take i) ++ [.v (.int .i64 d.past[i].people), .v (storyV d.past[i].story)] := by rw [List.take_succ_eq_append_getElem hlt, plT_append]; rfl
    have hil : min i d.past.length = i := by omega
    simp -dsimp [t1, t4, m0, hlt]
    have hTb : plT (d.past.take i) = plT (d.past.take i) := rfl
    refine twp_draw (List.range 12) [n, n + 2, pid] (List.replicate 12 [0, 1, 2]) (List.replicate 11 [0, 1, 2] ++ [[0, 2]]) (by kernel_rfl) (by kernel_rfl) (by kernel_rfl) (by kernel_rfl) ?_
    rcases hst with ⟨rfl, hs0⟩ | ⟨id, ex2, rfl, hi0, hi1, him⟩
    · simp -dsimp [List.range_succ, t1, t3, t4, m0, m2, hlt, hget, hgl, hgl2, hpm', nes, f0, f1, f2, f3, e0, e1, e2, e3, e4, e5, d0, d1, d2]
      refine call_ hpl (by simp -dsimp) ?_
      simp -dsimp [List.range_succ, t1, t3, t4, m0, m2, hlt, hget, hgl, hgl2, hpm', hmu, nes, f0, f1, f2, f3, e0, e1, e2, e3, e4, e5, d0, d1, d2, wi, hmu1]
      have hi00 : i = 0 := by
        simp at hs0; rcases hs0 with h | h
        · exact h
        · rw [h] at hlt; simp at hlt
      subst hi00
      refine st_out fun s' ht hm' hn' hu' => ?_
      have q1 := ht 1
      have q2 := ht 2
      have q3 := ht 3
      have q4 := ht 4
      simp -dsimp [t1, t2, t3] at q1 q2 q3 q4 hm' hn' hu'
      clear ht
      refine ⟨1, .sv (s.n + 1) 0 1, q1, q2, q3, q4, by rw [hu', hmu], by omega, by omega, by simp [hm', nes, e0, e1, f0, m0], by simp [hm', nes, e2, f0, f1, m1], by simp [hm', nes, f2], .inr ⟨s.n + 1, [], ?_, by omega, by omega, ?_⟩, fun j j1 => ?_, by simp⟩
      · simp; omega
      · rw [htk]; simp [hm', nes, f0, f1, f2]
      · simp [hm', far (show j < s.n by omega), show ¬ j = n + 2 by omega, hout j j1]
    · have g1 := far hi1
      have g2 : ¬ id = n + 2 := by omega
      have g0 : ¬ id = n := by omega
      have g3 : ¬ id = n + 1 := by omega
      have g4 : ¬ id = pid := by omega
      simp -dsimp [List.range_succ, t1, t3, t4, m0, m2, hlt, hget, hgl, hgl2, hpm', nes, f0, f1, f2, f3, e0, e1, e2, e3, e4, e5, d0, d1, d2]
      refine call_ hpl (by simp -dsimp) ?_
      simp -dsimp [List.range_succ, t1, t3, t4, m0, m2, hlt, hget, hgl, hgl2, hpm', hmu, nes, f0, f1, f2, f3, e0, e1, e2, e3, e4, e5, d0, d1, d2, wi, hmu1, b1, g1, g2, g0, g3, g4, Ne.symm g0, Ne.symm g2, Ne.symm g3, Ne.symm g4, him]
      refine st_out fun s' ht hm' hn' hu' => ?_
      have q1 := ht 1
      have q2 := ht 2
      have q3 := ht 3
      have q4 := ht 4
      simp -dsimp [t1, t2, t3] at q1 q2 q3 q4 hm' hn' hu'
      clear ht
      refine ⟨i + 1, .sv (s.n + 1) 0 (i + 1), q1, q2, q3, q4, by rw [hu', hmu], by omega, by omega, by simp [hm', nes, e0, e1, f0, m0, Ne.symm g0], by simp [hm', nes, e2, f0, f1, m1, Ne.symm g3], by simp [hm', nes, f2, hil], .inr ⟨s.n + 1, [], ?_, by omega, by omega, ?_⟩, fun j j1 => ?_, by simp⟩
      · simp; omega
      · rw [htk]; simp [hm', f0, f1, f2, nes, hil]
      · simp [hm', far (show j < s.n by omega), show ¬ j = n + 2 by omega, show ¬ j = id by omega, hout j j1]
  · rintro s ⟨i, st, t1, t2, t3, t4, hmu, hi, hn, m0, m1, m2, hst, hout, hend⟩
    have := hend rfl
    subst this
    rw [List.take_length] at hst
    have f1 := far (show n + 1 < s.n by omega)
    rcases hst with ⟨rfl, hs0⟩ | ⟨id, ex2, rfl, hi0, hi1, him⟩
    · simp -dsimp [t2, t3, m1, m2, e2, e4]
      exact ⟨by omega, fun j j1 => by simp [show ¬ j = n + 1 by omega, hout j j1], .nil, rfl, .inl ⟨rfl, hs0⟩⟩
    · have g3 : ¬ id = n + 1 := by omega
      simp -dsimp [t2, t3, m1, m2, e2, e4]
      exact ⟨by omega, fun j j1 => by simp [show ¬ j = n + 1 by omega, hout j j1], .sv id 0 d.past.length, rfl, .inr ⟨id, ex2, rfl, by omega, by omega, by simp [g3, him]⟩⟩
end TL

/- Terms as trees; their texts. -/
set_option linter.unusedSimpArgs false
set_option linter.unusedVariables false
set_option maxRecDepth 100000
set_option maxHeartbeats 4000000
set_option pp.maxSteps 1500
namespace TL
open Go Go.Proofs
attribute [local simp] marksV storyV codeV Claim.v Place.v
inductive Tm where
  | tells (i : Nat) | count (n : Nat) | not (a : Tm) | bin (k : Nat) (a b : Tm)
def Tm.marks : Tm → List Mark
  | .tells i => [⟨0, i⟩]
  | .count n => [⟨1, n⟩]
  | .not a => a.marks ++ [⟨2, 0⟩]
  | .bin k a b => a.marks ++ b.marks ++ [⟨3 + k, 0⟩]
def Tm.kind : Tm → Nat
  | .tells _ => 0
  | .count _ => 1
  | .not _ => 2
  | .bin k _ _ => 3 + k
def Tm.ok : Tm → Prop
  | .tells i => i < 4
  | .count n => n < 6
  | .not a => a.ok
  | .bin k a b => k < 3 ∧ a.ok ∧ b.ok
def par (b : Bool) (s : List UInt8) : List UInt8 := if b then 40 :: (s ++ [41]) else s
def sign (k : Nat) : UInt8 := if k = 0 then 38 else if k = 1 then 124 else 61
def Tm.text : Tm → List UInt8
  | .tells i => [UInt8.ofNat (97 + i)]
  | .count n => [UInt8.ofNat (48 + n)]
  | .not a => 33 :: par (decide (3 ≤ a.kind)) a.text
  | .bin k a b => par (decide (3 + k < a.kind)) a.text ++ sign k :: par (decide (3 + k ≤ b.kind)) b.text
theorem par_len (b : Bool) (s : List UInt8) : (par b s).length ≤ s.length + 2 := by unfold par; split <;> simp
theorem Tm.marks_pos : ∀ T : Tm, 1 ≤ T.marks.length
  | .tells _ => by simp [marks]
  | .count _ => by simp [marks]
  | .not a => by simp [marks]
  | .bin k a b => by simp [marks]; omega
theorem Tm.text_len : ∀ T : Tm, T.text.length ≤ 6 * T.marks.length
  | .tells _ => by simp [text, marks]
  | .count _ => by simp [text, marks]
  | .not a => by
    have := a.text_len; have := par_len (decide (3 ≤ a.kind)) a.text
    simp [text, marks] at *; omega
  | .bin k a b => by
    have := a.text_len; have := b.text_len; have := par_len (decide (3 + k < a.kind)) a.text; have := par_len (decide (3 + k ≤ b.kind)) b.text
    simp [text, marks] at *; omega
theorem Tm.last : ∀ T : Tm, ∃ pre m, T.marks = pre ++ [m] ∧ m.kind = (T.kind : Int)
  | .tells i => ⟨[], ⟨0, i⟩, rfl, rfl⟩
  | .count n => ⟨[], ⟨1, n⟩, rfl, rfl⟩
  | .not a => ⟨a.marks, ⟨2, 0⟩, rfl, rfl⟩
  | .bin k a b => ⟨a.marks ++ b.marks, ⟨3 + k, 0⟩, rfl, by simp [kind]⟩
theorem Tm.kinds : ∀ T : Tm, T.ok → ∀ m ∈ T.marks, 0 ≤ m.kind ∧ m.kind ≤ 5
  | .tells i, _, m, hm => by simp [marks] at hm; subst hm; simp
  | .count n, _, m, hm => by simp [marks] at hm; subst hm; simp
  | .not a, h, m, hm => by
    simp only [marks, List.mem_append, List.mem_singleton] at hm
    rcases hm with hm | rfl
    · exact a.kinds h m hm
    · simp
  | .bin k a b, h, m, hm => by
    simp only [marks, List.mem_append, List.mem_singleton] at hm
    rcases hm with (hm | hm) | rfl
    · exact a.kinds h.2.1 m hm
    · exact b.kinds h.2.2 m hm
    · have := h.1; simp; omega
/-! A row of marks that is a term is a tree. -/
def flat (st : List Tm) : List Mark := st.flatMap Tm.marks
theorem flat_append (a b : List Tm) : flat (a ++ b) = flat a ++ flat b := by simp [flat]
theorem last_of {α : Type} {l : List α} {n : Nat} (h : l.length = n + 1) : ∃ a x, l = a ++ [x] ∧ a.length = n := by
  have hne : l ≠ [] := by rintro rfl; simp at h
  refine ⟨l.dropLast, l.getLast hne, (List.dropLast_concat_getLast hne).symm, by simp [h]⟩
theorem run_tree {people : Int} (hp : people ≤ 4) : ∀ (ms : List Mark) (parts q : Nat) (st : List Tm), st.length = parts → (∀ T ∈ st, T.ok) → marksRun people parts ms = some q → ∃ st' : List Tm, st'.length = q ∧ (∀ T ∈ st', T.ok) ∧ flat st' = flat st ++ ms
  | [], parts, q, st, h1, h2, h3 => by
    simp [marksRun] at h3; exact ⟨st, by omega, h2, by simp⟩
  | m :: ms, parts, q, st, h1, h2, h3 => by
    simp only [marksRun] at h3
    cases e : markStep people parts m with
    | none => rw [e] at h3; cases h3
    | some r =>
      rw [e] at h3
      have go : ∀ st1 : List Tm, st1.length = r → (∀ T ∈ st1, T.ok) → flat st1 = flat st ++ [m] → ∃ st' : List Tm, st'.length = q ∧ (∀ T ∈ st', T.ok) ∧ flat st' = flat st ++ m :: ms := fun st1 a b c => by
        obtain ⟨st', x, y, z⟩ := run_tree hp ms r q st1 a b h3
        exact ⟨st', x, y, by rw [z, c]; simp⟩
      obtain ⟨k, a⟩ := m
      unfold markStep at e
      simp only at e
      split at e
      · rename_i hk; subst hk
        split at e
        · rename_i ha; cases e
          refine go (st ++ [.tells a.toNat]) (by simp; omega) ?_ ?_
          · intro T hT; rcases List.mem_append.1 hT with hT | hT
            · exact h2 T hT
            · cases List.mem_singleton.1 hT; show a.toNat < 4; omega
          · have : ((a.toNat : Nat) : Int) = a := by omega
            simp [flat, Tm.marks, this]
        · cases e
      split at e
      · rename_i hk; subst hk
        split at e
        · rename_i ha; cases e
          refine go (st ++ [.count a.toNat]) (by simp; omega) ?_ ?_
          · intro T hT; rcases List.mem_append.1 hT with hT | hT
            · exact h2 T hT
            · cases List.mem_singleton.1 hT; show a.toNat < 6; omega
          · have : ((a.toNat : Nat) : Int) = a := by omega
            simp [flat, Tm.marks, this]
        · cases e
      split at e
      · rename_i hk; subst hk
        split at e
        · rename_i ha; cases e
          obtain ⟨rfl, hp1⟩ := ha
          obtain ⟨st0, x, rfl, hx⟩ := last_of (l := st) (n := parts - 1) (by omega)
          refine go (st0 ++ [.not x]) (by simp at h1 ⊢; omega) ?_ ?_
          · intro T hT; rcases List.mem_append.1 hT with hT | hT
            · exact h2 T (List.mem_append_left _ hT)
            · cases List.mem_singleton.1 hT; exact h2 x (by simp)
          · simp [flat, Tm.marks]
        · cases e
      split at e
      · rename_i hk
        split at e
        · rename_i ha; cases e
          obtain ⟨rfl, hp1⟩ := ha
          obtain ⟨st0, y, rfl, hy⟩ := last_of (l := st) (n := parts - 1) (by omega)
          obtain ⟨st1, x, rfl, hx⟩ := last_of (l := st0) (n := parts - 2) (by omega)
          refine go (st1 ++ [.bin (k - 3).toNat x y]) (by simp at h1 ⊢; omega) ?_ ?_
          · intro T hT; rcases List.mem_append.1 hT with hT | hT
            · exact h2 T (by simp [hT])
            · cases List.mem_singleton.1 hT; exact ⟨by omega, h2 x (by simp), h2 y (by simp)⟩
          · have : (3 : Int) + ((k - 3).toNat : Nat) = k := by omega
            simp [flat, Tm.marks]; omega
        · cases e
      · cases e
theorem termOk_tree {people : Int} {t : List Mark} (h : termOk people t = true) : ∃ T : Tm, T.ok ∧ T.marks = t := by
  simp only [termOk, peopleOk, Bool.and_eq_true, decide_eq_true_eq] at h
  obtain ⟨st, h1, h2, h3⟩ := run_tree (by omega) t 0 1 [] rfl (by simp) h.2
  obtain ⟨T, rfl⟩ := List.length_eq_one_iff.1 h1
  exact ⟨T, h2 T (by simp), by simpa [flat] using h3⟩
/-! Where the last part begins. -/
def dl (m : Mark) : Int := if m.kind = 0 ∨ m.kind = 1 then -1 else if m.kind = 3 ∨ m.kind = 4 ∨ m.kind = 5 then 1 else 0
def dsum (l : List Mark) : Int := (l.map dl).sum
@[simp] theorem dsum_nil : dsum [] = 0 := rfl
@[simp] theorem dsum_cons (m : Mark) (l : List Mark) : dsum (m :: l) = dl m + dsum l := by simp [dsum]
@[simp] theorem dsum_append (a b : List Mark) : dsum (a ++ b) = dsum a + dsum b := by simp [dsum]
theorem dl_abs (m : Mark) : -1 ≤ dl m ∧ dl m ≤ 1 := by unfold dl; split <;> (try split) <;> omega
theorem dsum_abs : ∀ l : List Mark, -(l.length : Int) ≤ dsum l ∧ dsum l ≤ l.length
  | [] => by simp
  | m :: l => by have := dsum_abs l; have := dl_abs m; simp; omega
theorem Tm.scan : ∀ T : Tm, T.ok → dsum T.marks = -1 ∧ ∀ j, 1 ≤ j → 0 ≤ dsum (T.marks.drop j)
  | .tells i, _ => ⟨by simp [marks, dl], fun j hj => by rw [List.drop_eq_nil_of_le (by simp [marks]; omega)]; simp⟩
  | .count i, _ => ⟨by simp [marks, dl], fun j hj => by rw [List.drop_eq_nil_of_le (by simp [marks]; omega)]; simp⟩
  | .not a, h => by
    obtain ⟨h1, h2⟩ := a.scan h
    have e : dl ⟨2, 0⟩ = 0 := by simp [dl]
    refine ⟨by simp [marks, h1, e], fun j hj => ?_⟩
    have := h2 j hj
    have e3 : 0 ≤ dsum ([(⟨2, 0⟩ : Mark)].drop (j - a.marks.length)) := by
      rcases Nat.eq_zero_or_pos (j - a.marks.length) with h | h
      · rw [h]; simp [e]
      · rw [List.drop_eq_nil_of_le (by simp; omega)]; simp
    simp only [marks, List.drop_append, dsum_append]; omega
  | .bin k a b, h => by
    obtain ⟨h1, h2⟩ := a.scan h.2.1
    obtain ⟨h3, h4⟩ := b.scan h.2.2
    have e : dl ⟨3 + k, 0⟩ = 1 := by have := h.1; unfold dl; rw [if_neg (by simp; omega), if_pos (by simp; omega)]
    refine ⟨by simp [marks, h1, h3, e], fun j hj => ?_⟩
    have := h2 j hj
    simp only [marks, List.drop_append, dsum_append, List.length_append]
    rcases Nat.eq_zero_or_pos (j - a.marks.length) with h0 | h0
    · have e4 : j - (a.marks.length + b.marks.length) = 0 := by omega
      rw [h0, e4]; simp [h3, e]; omega
    · have := h4 _ h0
      have e3 : 0 ≤ dsum ([(⟨3 + k, 0⟩ : Mark)].drop (j - (a.marks.length + b.marks.length))) := by
        rcases Nat.eq_zero_or_pos (j - (a.marks.length + b.marks.length)) with h | h
        · rw [h]; simp [e]
        · rw [List.drop_eq_nil_of_le (by simp; omega)]; simp
      omega
def Ilp (l : List Mark) (p : Nat) (s : S) : Prop := ∃ i : Nat, s.tm 0 = .v (.sl (l.map Mark.v)) ∧ s.tm 4 = .v (.int .i64 i) ∧ i < l.length ∧ p ≤ i ∧ s.tm 3 = .v (.int .i64 (1 + dsum (l.drop (i + 1))))
def intOf : T → Int
  | .v (.int _ z) => z
  | _ => 0
@[simp] theorem intOf_int (k : IntKind) (z : Int) : intOf (.v (.int k z)) = z := rfl
def Ils (l : List Mark) (p e : Nat) (B : List Mark) (x : Nat) (s : S) : Prop := ∃ i : Nat, s.tm 0 = .v (.sl (l.map Mark.v)) ∧ s.tm 6 = .v (.int .i64 ((p : Int) + i - 1)) ∧ i ≤ B.length ∧ s.tm 5 = .v (.int .i64 (1 + dsum (B.drop i))) ∧ (x = 1 → i = 0)
theorem l2Starts_fn (pre rest : List Mark) (T : Tm) (hok : T.ok) (hl : (pre ++ T.marks ++ rest).length ≤ 1048576) :
    FnZ Try.prog 42 [marksV (pre ++ T.marks ++ rest), .int .i64 ((pre.length : Int) + T.marks.length - 1)] (.int .i64 pre.length) := by
  obtain ⟨s1, s2⟩ := T.scan hok
  have hpos := T.marks_pos
  have hk := T.kinds hok
  have hget : ∀ i, i < T.marks.length → ∃ m, T.marks[i]? = some m ∧ 0 ≤ m.kind ∧ m.kind ≤ 5 ∧ (pre ++ T.marks ++ rest)[pre.length + i]? = some m := fun i hi => by
    refine ⟨T.marks[i], List.getElem?_eq_getElem hi, (hk _ (List.getElem_mem _)).1, (hk _ (List.getElem_mem _)).2, ?_⟩
    rw [List.append_assoc, List.getElem?_append_right (by omega), List.getElem?_append_left (by omega)]
    rw [show pre.length + i - pre.length = i by omega, List.getElem?_eq_getElem hi]
  have hlen : pre.length + T.marks.length ≤ (pre ++ T.marks ++ rest).length := by simp
  generalize pre ++ T.marks ++ rest = l at *
  generalize pre.length = p at *
  generalize T.marks = B at *
  refine FnZ_of (rs := [.tmp 4]) false Try.func42 rfl rfl rfl rfl (Nat.le_of_ble_eq_true rfl) ?_
  simp -dsimp
  refine twp_loopC (Ils l p 0 B 0) (fun s => (intOf (s.tm 6) - p + 1).toNat) (Ils l p 0 B 1) ?_ ?_ ?_
  · refine ⟨B.length, by simp -dsimp, by simp -dsimp, by omega, ?_, by simp⟩
    rw [List.drop_length]; simp -dsimp
  · rintro s ⟨i, t0, t6, hi, t5, hx⟩
    by_cases hi0 : i = 0
    · subst hi0
      rw [List.drop_zero, s1] at t5
      simp -dsimp [t5]
      exact ⟨0, by simp -dsimp [t0], by simp -dsimp [t6], hi, by rw [List.drop_zero, s1]; simp -dsimp [t5], fun _ => rfl⟩
    have hN := s2 i (by omega)
    obtain ⟨m, hm1, hm2, hm3, hm4⟩ := hget (i - 1) (by omega)
    have hd : dsum (B.drop (i - 1)) = dl m + dsum (B.drop i) := by
      have hlt : i - 1 < B.length := by omega
      rw [drop_cons hlt, dsum_cons, show i - 1 + 1 = i by omega]
      rw [List.getElem?_eq_getElem hlt] at hm1
      cases hm1; rfl
    have habs := dsum_abs (B.drop i)
    rw [List.length_drop] at habs
    generalize hNN : dsum (B.drop i) = N at *
    have hz : 0 < 1 + N := by omega
    obtain ⟨q, hq⟩ : ∃ q : Nat, q = p + (i - 1) := ⟨_, rfl⟩
    have idx : ((p : Int) + i - 1) = (q : Int) := by omega
    rw [← hq] at hm4
    have wn : IntKind.wrap .i64 (1 + N - 1) = 1 + N - 1 := w64 (by omega) (by omega)
    have wn' : IntKind.wrap .i64 N = N := w64 (by omega) (by omega)
    have wp : IntKind.wrap .i64 (1 + N + 1) = 1 + N + 1 := w64 (by omega) (by omega)
    have wi : IntKind.wrap .i64 ((q : Int) - 1) = (p : Int) + (i - 1 : Nat) - 1 := by rw [w64 (by omega) (by omega)]; omega
    have again : ∀ (s' : S) (x : Int), x = 1 + dsum (B.drop (i - 1)) → s'.tm 0 = .v (.sl (l.map Mark.v)) → s'.tm 6 = .v (.int .i64 ((p : Int) + (i - 1 : Nat) - 1)) → s'.tm 5 = .v (.int .i64 x) → Ils l p 0 B 0 s' := fun s' x hx a0 a6 a5 =>
      ⟨i - 1, a0, a6, by omega, by rw [a5, hx], by simp⟩
    rw [idx] at t6
    have hmu : ((p : Int) + (i - 1 : Nat) - 1 - p + 1).toNat < ((q : Int) - p + 1).toNat := by omega
    by_cases k1 : m.kind ≤ 1
    · have hdl : dl m = -1 := by unfold dl; rw [if_pos (by omega)]
      simp -dsimp [t0, t5, t6, hz, hm4, k1, wn, wi]
      refine ⟨again _ (1 + N - 1) (by omega) (by simp -dsimp [t0]) (by simp -dsimp) (by simp -dsimp [t5]), ?_⟩
      omega
    · have k2 : ¬ m.kind ≤ 1 := k1
      by_cases k3 : 2 < m.kind
      · have hdl : dl m = 1 := by unfold dl; rw [if_neg (by omega), if_pos (by omega)]
        simp -dsimp [t0, t5, t6, hz, hm4, k2, k3, wp, wi]
        refine ⟨again _ (1 + N + 1) (by omega) (by simp -dsimp [t0]) (by simp -dsimp) (by simp -dsimp [t5]), ?_⟩
        omega
      · have hdl : dl m = 0 := by unfold dl; rw [if_neg (by omega), if_neg (by omega)]
        simp -dsimp [t0, t5, t6, hz, hm4, k2, k3, wi]
        refine ⟨again _ (1 + N) (by omega) (by simp -dsimp [t0]) (by simp -dsimp) (by simp -dsimp [t5]), ?_⟩
        omega
  · rintro s ⟨i, t0, t6, hi, t5, hx⟩
    have := hx rfl
    subst this
    have w : IntKind.wrap .i64 ((p : Int) + (0 : Nat) - 1 + 1) = p := by rw [w64 (by omega) (by omega)]; omega
    simp -dsimp [t6]
    exact w64 (by omega) (by omega)
/-! The texts. -/
def Ihe (l : List Mark) (st : List UInt8) (ks : List Int) (m : Mark) (s : S) : Prop := ∃ i : Nat, s.tm 0 = .v (.sl (l.map Mark.v)) ∧ s.tm 5 = .v (.str st) ∧ s.tm 10 = .v (.sl (ks.map (V.int .i64))) ∧ s.tm 11 = .v (.int .i64 ks.length) ∧ s.tm 12 = .v (.int .i64 i) ∧ i ≤ ks.length ∧ m.kind ∉ ks.take i
end TL

/- Reading terms: the plain part. -/
set_option linter.unusedSimpArgs false
set_option linter.unusedVariables false
set_option maxRecDepth 100000
namespace TL
/-- What a reader has read: marks, what is left, whether it was one. -/
structure R where
  ms : List Mark
  rest : List UInt8
  ok : Bool
def rLoop (p : List UInt8 → R) (sg : UInt8) (k : Int) : Nat → List Mark → List UInt8 → R
  | 0, t, s => ⟨t, s, true⟩
  | _ + 1, t, [] => ⟨t, [], true⟩
  | g + 1, t, c :: more => if c = sg then (if (p more).ok = true then rLoop p sg k g (t ++ (p more).ms ++ [⟨k, 0⟩]) (p more).rest else ⟨[], (p more).rest, false⟩) else ⟨t, c :: more, true⟩
def rRow (p : List UInt8 → R) (sg : UInt8) (k : Int) (g : Nat) (s : List UInt8) : R := if (p s).ok = true then rLoop p sg k g (p s).ms (p s).rest else ⟨[], (p s).rest, false⟩
def shut (r : R) : R := match r.rest with
  | [] => ⟨r.ms, [], false⟩
  | c :: q => if c = 41 then ⟨r.ms, q, r.ok⟩ else ⟨r.ms, c :: q, false⟩
def rPart (A : UInt8 → Option Mark) : Nat → List UInt8 → R
  | 0, s => ⟨[], s, false⟩
  | _ + 1, [] => ⟨[], [], false⟩
  | f + 1, c :: s => match A c with
    | some m => ⟨[m], s, true⟩
    | none => if c = 33 then ⟨(rPart A f s).ms ++ [⟨2, 0⟩], (rPart A f s).rest, (rPart A f s).ok⟩
      else if c = 40 then shut (rRow (rRow (rRow (rPart A f) 38 3 f) 124 4 f) 61 5 f s)
      else ⟨[], c :: s, false⟩
def rAnd (A : UInt8 → Option Mark) (f : Nat) (s : List UInt8) : R := rRow (rPart A f) 38 3 f s
def rOr (A : UInt8 → Option Mark) (f : Nat) (s : List UInt8) : R := rRow (rAnd A f) 124 4 f s
def rSame (A : UInt8 → Option Mark) (f : Nat) (s : List UInt8) : R := rRow (rOr A f) 61 5 f s
theorem rPart_open (A : UInt8 → Option Mark) (f : Nat) (s : List UInt8) (h : A 40 = none) : rPart A (f + 1) (40 :: s) = shut (rSame A f s) := by
  show (match A 40 with
    | some m => _
    | none => _) = _
  rw [h]; rfl
theorem rPart_not (A : UInt8 → Option Mark) (f : Nat) (s : List UInt8) (h : A 33 = none) : rPart A (f + 1) (33 :: s) = ⟨(rPart A f s).ms ++ [⟨2, 0⟩], (rPart A f s).rest, (rPart A f s).ok⟩ := by
  show (match A 33 with
    | some m => _
    | none => _) = _
  rw [h]; rfl
theorem rPart_one (A : UInt8 → Option Mark) (f : Nat) (c : UInt8) (s : List UInt8) (m : Mark) (h : A c = some m) : rPart A (f + 1) (c :: s) = ⟨[m], s, true⟩ := by
  show (match A c with
    | some m => _
    | none => _) = _
  rw [h]
/-! How much is read, and what marks there are. -/
def good (p : List UInt8 → R) : Prop := ∀ s, (p s).ms.length + (p s).rest.length ≤ s.length ∧ ∀ m ∈ (p s).ms, 0 ≤ m.kind ∧ m.kind ≤ 5 ∧ 0 ≤ m.num ∧ m.num ≤ 1000
theorem rLoop_good {p : List UInt8 → R} (hp : good p) {sg : UInt8} {k : Int} (h0 : 0 ≤ k) (h5 : k ≤ 5) : ∀ (g : Nat) (t : List Mark) (s : List UInt8), (∀ m ∈ t, 0 ≤ m.kind ∧ m.kind ≤ 5 ∧ 0 ≤ m.num ∧ m.num ≤ 1000) →
    (rLoop p sg k g t s).ms.length + (rLoop p sg k g t s).rest.length ≤ t.length + s.length ∧ ∀ m ∈ (rLoop p sg k g t s).ms, 0 ≤ m.kind ∧ m.kind ≤ 5 ∧ 0 ≤ m.num ∧ m.num ≤ 1000
  | 0, t, s, h => ⟨by simp [rLoop], h⟩
  | g + 1, t, [], h => ⟨by simp [rLoop], h⟩
  | g + 1, t, c :: more, h => by
    simp only [rLoop]
    have := (hp more).1
    split
    · split
      · have ih := rLoop_good hp (sg := sg) h0 h5 g (t ++ (p more).ms ++ [⟨k, 0⟩]) (p more).rest (fun m hm => by
          rcases List.mem_append.1 hm with hm | hm
          · rcases List.mem_append.1 hm with hm | hm
            · exact h m hm
            · exact (hp more).2 m hm
          · cases List.mem_singleton.1 hm; exact ⟨h0, h5, by simp, by simp⟩)
        refine ⟨?_, ih.2⟩
        have := ih.1
        simp at this ⊢; omega
      · refine ⟨by simp; omega, by simp⟩
    · exact ⟨by simp, h⟩
theorem rRow_good {p : List UInt8 → R} (hp : good p) {sg : UInt8} {k : Int} (h0 : 0 ≤ k) (h5 : k ≤ 5) (g : Nat) : good (rRow p sg k g) := fun s => by
  have := hp s
  unfold rRow
  split
  · have h := rLoop_good hp (sg := sg) h0 h5 g (p s).ms (p s).rest this.2
    exact ⟨by omega, h.2⟩
  · exact ⟨by simp; omega, by simp⟩
theorem shut_good {r : R} {n : Nat} (h : r.ms.length + r.rest.length ≤ n) : (shut r).ms.length + (shut r).rest.length ≤ n ∧ (shut r).ms = r.ms := by
  unfold shut
  split
  · rename_i e; rw [e] at h; exact ⟨by simpa using h, rfl⟩
  · rename_i e; rw [e] at h
    split
    · exact ⟨by simp at h ⊢; omega, rfl⟩
    · exact ⟨by simpa using h, rfl⟩
theorem rPart_good {A : UInt8 → Option Mark} (hA : ∀ c m, A c = some m → 0 ≤ m.kind ∧ m.kind ≤ 5 ∧ 0 ≤ m.num ∧ m.num ≤ 1000) : ∀ f, good (rPart A f)
  | 0 => fun s => ⟨by simp [rPart], by simp [rPart]⟩
  | f + 1 => fun s => by
    have ih := rPart_good hA f
    cases s with
    | nil => exact ⟨by simp [rPart], by simp [rPart]⟩
    | cons c s =>
      simp only [rPart]
      split
      · rename_i m e; exact ⟨by simp; omega, fun x hx => by cases List.mem_singleton.1 hx; exact hA c m e⟩
      split
      · have := ih s
        refine ⟨by simp; omega, fun x hx => ?_⟩
        rcases List.mem_append.1 hx with hx | hx
        · exact this.2 x hx
        · cases List.mem_singleton.1 hx; simp
      split
      · have g3 := rRow_good (rRow_good (rRow_good ih (sg := 38) (k := 3) (by omega) (by omega) f) (sg := 124) (k := 4) (by omega) (by omega) f) (sg := 61) (k := 5) (by omega) (by omega) f s
        have h := shut_good (n := s.length) g3.1
        refine ⟨by simp only [List.length_cons]; omega, ?_⟩
        rw [h.2]; exact g3.2
      · exact ⟨by simp, by simp⟩
/-! What was written is read. -/
def noHead (sg : UInt8) (r : List UInt8) : Prop := r.head? ≠ some sg
theorem rLoop_stop {p : List UInt8 → R} {sg : UInt8} {k : Int} (g : Nat) (t : List Mark) {r : List UInt8} (h : noHead sg r) : rLoop p sg k g t r = ⟨t, r, true⟩ := by
  cases g with
  | zero => rfl
  | succ g =>
    cases r with
    | nil => rfl
    | cons c r => simp only [rLoop]; rw [if_neg (fun e => h (by rw [e]; rfl))]
theorem rLoop_step {p : List UInt8 → R} {sg : UInt8} {k : Int} {g : Nat} {t u : List Mark} {s r : List UInt8} (hg : (sg :: s).length ≤ g) (hr : r.length ≤ s.length) (h : p s = ⟨u, r, true⟩) :
    ∃ g', r.length ≤ g' ∧ rLoop p sg k g t (sg :: s) = rLoop p sg k g' (t ++ u ++ [⟨k, 0⟩]) r := by
  cases g with
  | zero => simp at hg
  | succ g =>
    refine ⟨g, by simp at hg; omega, ?_⟩
    simp only [rLoop, if_true, h]
theorem rRow_up {p : List UInt8 → R} {sg : UInt8} {k : Int} {g : Nat} {t : List Mark} {s r : List UInt8} (h : p s = ⟨t, r, true⟩) : rRow p sg k g s = rLoop p sg k g t r := by
  unfold rRow; rw [h]; rfl
structure AOk (A : UInt8 → Option Mark) : Prop where
  letter : ∀ i : Nat, i < 4 → A (UInt8.ofNat (97 + i)) = some ⟨0, i⟩
  digit : ∀ i : Nat, i < 6 → A (UInt8.ofNat (48 + i)) = some ⟨1, i⟩
  bang : A 33 = none
  brak : A 40 = none
/-- How a text is read at each level. -/
structure RT (A : UInt8 → Option Mark) (T : Tm) (s : List UInt8) (b : Bool) : Prop where
  l0 : ∀ f r, (s ++ r).length ≤ f → (b = false → T.kind ≤ 2) → rPart A f (s ++ r) = ⟨T.marks, r, true⟩
  l1 : ∀ f r, (s ++ r).length ≤ f → (b = false → T.kind ≤ 3) → ∃ g, r.length ≤ g ∧ rAnd A f (s ++ r) = rLoop (rPart A f) 38 3 g T.marks r
  l2 : ∀ f r, (s ++ r).length ≤ f → (b = false → T.kind ≤ 4) → noHead 38 r → ∃ g, r.length ≤ g ∧ rOr A f (s ++ r) = rLoop (rAnd A f) 124 4 g T.marks r
  l3 : ∀ f r, (s ++ r).length ≤ f → noHead 38 r → noHead 124 r → ∃ g, r.length ≤ g ∧ rSame A f (s ++ r) = rLoop (rOr A f) 61 5 g T.marks r
theorem lift1 {A : UInt8 → Option Mark} {f : Nat} {t : List Mark} {s r : List UInt8} (hl : (s ++ r).length ≤ f) (h : rPart A f (s ++ r) = ⟨t, r, true⟩) : ∃ g, r.length ≤ g ∧ rAnd A f (s ++ r) = rLoop (rPart A f) 38 3 g t r :=
  ⟨f, by simp at hl; omega, rRow_up h⟩
theorem lift2 {A : UInt8 → Option Mark} {f : Nat} {t : List Mark} {s r : List UInt8} (hl : (s ++ r).length ≤ f) (hn : noHead 38 r) (h : ∃ g, r.length ≤ g ∧ rAnd A f (s ++ r) = rLoop (rPart A f) 38 3 g t r) : ∃ g, r.length ≤ g ∧ rOr A f (s ++ r) = rLoop (rAnd A f) 124 4 g t r := by
  obtain ⟨g, _, h⟩ := h
  rw [rLoop_stop g t hn] at h
  exact ⟨f, by simp at hl; omega, rRow_up h⟩
theorem lift3 {A : UInt8 → Option Mark} {f : Nat} {t : List Mark} {s r : List UInt8} (hl : (s ++ r).length ≤ f) (hn : noHead 124 r) (h : ∃ g, r.length ≤ g ∧ rOr A f (s ++ r) = rLoop (rAnd A f) 124 4 g t r) : ∃ g, r.length ≤ g ∧ rSame A f (s ++ r) = rLoop (rOr A f) 61 5 g t r := by
  obtain ⟨g, _, h⟩ := h
  rw [rLoop_stop g t hn] at h
  exact ⟨f, by simp at hl; omega, rRow_up h⟩
theorem RT.of0 {A : UInt8 → Option Mark} {T : Tm} {s : List UInt8} {b : Bool} (h : ∀ f r, (s ++ r).length ≤ f → rPart A f (s ++ r) = ⟨T.marks, r, true⟩) : RT A T s b :=
  ⟨fun f r hl _ => h f r hl, fun f r hl _ => lift1 hl (h f r hl), fun f r hl _ hn => lift2 hl hn (lift1 hl (h f r hl)), fun f r hl hn hn2 => lift3 hl hn2 (lift2 hl hn (lift1 hl (h f r hl)))⟩
theorem RT.par {A : UInt8 → Option Mark} (hA : AOk A) {T : Tm} (h : RT A T T.text false) (b : Bool) : RT A T (par b T.text) b := by
  cases b with
  | false => exact h
  | true =>
    refine RT.of0 fun f r hl => ?_
    have e : TL.par true T.text ++ r = 40 :: (T.text ++ 41 :: r) := by simp [TL.par]
    rw [e] at hl ⊢
    cases f with
    | zero => simp at hl
    | succ f =>
      obtain ⟨g, _, h3⟩ := h.l3 f (41 :: r) (by simp at hl ⊢; omega) (by simp [noHead]) (by simp [noHead])
      rw [rPart_open A f _ hA.brak, h3, rLoop_stop g _ (by simp [noHead])]
      simp [shut]
theorem RT.tm {A : UInt8 → Option Mark} (hA : AOk A) : ∀ T : Tm, T.ok → RT A T T.text false
  | .tells i, h => RT.of0 fun f r hl => by
    cases f with
    | zero => simp [Tm.text] at hl
    | succ f => exact rPart_one A f _ r _ (hA.letter i h)
  | .count i, h => RT.of0 fun f r hl => by
    cases f with
    | zero => simp [Tm.text] at hl
    | succ f => exact rPart_one A f _ r _ (hA.digit i h)
  | .not a, h => RT.of0 fun f r hl => by
    have e : (Tm.not a).text ++ r = 33 :: (TL.par (decide (3 ≤ a.kind)) a.text ++ r) := rfl
    rw [e] at hl ⊢
    cases f with
    | zero => simp at hl
    | succ f =>
      have ih := ((RT.tm hA a h).par hA (decide (3 ≤ a.kind))).l0 f r (by simp at hl ⊢; omega) (by simp; omega)
      rw [rPart_not A f _ hA.bang, ih]; rfl
  | .bin k a b, h => by
    have ia := (RT.tm hA a h.2.1).par hA (decide (3 + k < a.kind))
    have ib := (RT.tm hA b h.2.2).par hA (decide (3 + k ≤ b.kind))
    have e : ∀ r, (Tm.bin k a b).text ++ r = TL.par (decide (3 + k < a.kind)) a.text ++ sign k :: (TL.par (decide (3 + k ≤ b.kind)) b.text ++ r) := fun r => by simp [Tm.text]
    have em : (Tm.bin k a b).marks = a.marks ++ b.marks ++ [⟨3 + k, 0⟩] := rfl
    have ek : (Tm.bin k a b).kind = 3 + k := rfl
    have hk := h.1
    generalize TL.par (decide (3 + k < a.kind)) a.text = sa at *
    generalize TL.par (decide (3 + k ≤ b.kind)) b.text = sb at *
    generalize (Tm.bin k a b).text = st at *
    have g1 : k = 0 → ∀ f r, (st ++ r).length ≤ f → ∃ g, r.length ≤ g ∧ rAnd A f (st ++ r) = rLoop (rPart A f) 38 3 g (Tm.bin k a b).marks r := by
      rintro rfl f r hl
      rw [e] at hl ⊢
      have la : sign 0 = 38 := rfl
      rw [la] at hl ⊢
      obtain ⟨g, hg, h1⟩ := ia.l1 f _ hl (by simp <;> omega)
      have h2 := ib.l0 f r (by simp at hl ⊢; omega) (by simp; omega)
      obtain ⟨g', hg', h3⟩ := rLoop_step (k := 3) (t := a.marks) hg (by simp) h2
      exact ⟨g', hg', by rw [h1, h3, em]; rfl⟩
    have g2 : k = 1 → ∀ f r, (st ++ r).length ≤ f → noHead 38 r → ∃ g, r.length ≤ g ∧ rOr A f (st ++ r) = rLoop (rAnd A f) 124 4 g (Tm.bin k a b).marks r := by
      rintro rfl f r hl hn
      rw [e] at hl ⊢
      have la : sign 1 = 124 := rfl
      rw [la] at hl ⊢
      obtain ⟨g, hg, h1⟩ := ia.l2 f _ hl (by simp <;> omega) (by simp [noHead])
      obtain ⟨g0, _, h2⟩ := ib.l1 f r (by simp at hl ⊢; omega) (by simp; omega)
      rw [rLoop_stop g0 _ hn] at h2
      obtain ⟨g', hg', h3⟩ := rLoop_step (k := 4) (t := a.marks) hg (by simp) h2
      exact ⟨g', hg', by rw [h1, h3, em]; rfl⟩
    have g3 : k = 2 → ∀ f r, (st ++ r).length ≤ f → noHead 38 r → noHead 124 r → ∃ g, r.length ≤ g ∧ rSame A f (st ++ r) = rLoop (rOr A f) 61 5 g (Tm.bin k a b).marks r := by
      rintro rfl f r hl hn hn2
      rw [e] at hl ⊢
      have la : sign 2 = 61 := rfl
      rw [la] at hl ⊢
      obtain ⟨g, hg, h1⟩ := ia.l3 f _ hl (by simp [noHead]) (by simp [noHead])
      obtain ⟨g0, _, h2⟩ := ib.l2 f r (by simp at hl ⊢; omega) (by simp; omega) hn
      rw [rLoop_stop g0 _ hn2] at h2
      obtain ⟨g', hg', h3⟩ := rLoop_step (k := 5) (t := a.marks) hg (by simp) h2
      exact ⟨g', hg', by rw [h1, h3, em]; rfl⟩
    refine ⟨fun f r hl hq => ?_, fun f r hl hq => ?_, fun f r hl hq hn => ?_, fun f r hl hn hn2 => ?_⟩
    · have := hq rfl; omega
    · have := hq rfl; exact g1 (by omega) f r hl
    · have := hq rfl
      rcases (by omega : k = 0 ∨ k = 1) with hk | hk
      · exact lift2 hl hn (g1 hk f r hl)
      · exact g2 hk f r hl hn
    · rcases (by omega : k = 0 ∨ k = 1 ∨ k = 2) with hk | hk | hk
      · exact lift3 hl hn2 (lift2 hl hn (g1 hk f r hl))
      · exact lift3 hl hn2 (g2 hk f r hl hn)
      · exact g3 hk f r hl hn hn2
theorem read_text {A : UInt8 → Option Mark} (hA : AOk A) (T : Tm) (h : T.ok) (f : Nat) (hf : T.text.length ≤ f) : rSame A f T.text = ⟨T.marks, [], true⟩ := by
  obtain ⟨g, _, e⟩ := (RT.tm hA T h).l3 f [] (by simpa using hf) (by simp [noHead]) (by simp [noHead])
  rw [List.append_nil] at e
  rw [e, rLoop_stop g _ (by simp [noHead])]
theorem rRow_nil {p : List UInt8 → R} {sg : UInt8} {k : Int} {g : Nat} (h : (p []).ok = false) : (rRow p sg k g []).ok = false := by
  unfold rRow; rw [if_neg (by simp [h])]
theorem rPart_nil (A : UInt8 → Option Mark) (f : Nat) : (rPart A f []).ok = false := by cases f <;> rfl
theorem rSame_nil (A : UInt8 → Option Mark) (f : Nat) : (rSame A f []).ok = false := rRow_nil (rRow_nil (rRow_nil (rPart_nil A f)))
/-- The atoms of the program, and of the reference. -/
def atomI (c : UInt8) : Option Mark := if 97 ≤ c.toNat ∧ c.toNat ≤ 122 then some ⟨0, (c.toNat : Int) - 97⟩ else if 48 ≤ c.toNat ∧ c.toNat ≤ 57 then some ⟨1, (c.toNat : Int) - 48⟩ else none
def atomS (c : UInt8) : Option Mark := if 97 ≤ c.toNat ∧ c.toNat ≤ 100 then some ⟨0, (c.toNat : Int) - 97⟩ else if 48 ≤ c.toNat ∧ c.toNat ≤ 53 then some ⟨1, (c.toNat : Int) - 48⟩ else none
theorem atomI_ok : AOk atomI where
  letter i hi := by rcases (by omega : i = 0 ∨ i = 1 ∨ i = 2 ∨ i = 3) with rfl | rfl | rfl | rfl <;> rfl
  digit i hi := by rcases (by omega : i = 0 ∨ i = 1 ∨ i = 2 ∨ i = 3 ∨ i = 4 ∨ i = 5) with rfl | rfl | rfl | rfl | rfl | rfl <;> rfl
  bang := rfl
  brak := rfl
theorem atomS_ok : AOk atomS where
  letter i hi := by rcases (by omega : i = 0 ∨ i = 1 ∨ i = 2 ∨ i = 3) with rfl | rfl | rfl | rfl <;> rfl
  digit i hi := by rcases (by omega : i = 0 ∨ i = 1 ∨ i = 2 ∨ i = 3 ∨ i = 4 ∨ i = 5) with rfl | rfl | rfl | rfl | rfl | rfl <;> rfl
  bang := rfl
  brak := rfl
theorem atomI_good (c : UInt8) (m : Mark) (h : atomI c = some m) : 0 ≤ m.kind ∧ m.kind ≤ 5 ∧ 0 ≤ m.num ∧ m.num ≤ 1000 := by
  unfold atomI at h
  split at h
  · cases h; simp only; omega
  split at h
  · cases h; simp only; omega
  · cases h
theorem atomS_good (c : UInt8) (m : Mark) (h : atomS c = some m) : 0 ≤ m.kind ∧ m.kind ≤ 5 ∧ 0 ≤ m.num ∧ m.num ≤ 1000 := by
  unfold atomS at h
  split at h
  · cases h; simp only; omega
  split at h
  · cases h; simp only; omega
  · cases h
/-- The text of a term. -/
noncomputable def termText (people : Int) (t : List Mark) : List UInt8 := by
  classical exact if h : termOk people t = true then (Classical.choose (termOk_tree h)).text else []
theorem termText_no {people : Int} {t : List Mark} (h : termOk people t = false) : termText people t = [] := by
  unfold termText; rw [dif_neg (by simp [h])]
theorem termText_tree {people : Int} {t : List Mark} (h : termOk people t = true) : ∃ T : Tm, T.ok ∧ T.marks = t ∧ T.text = termText people t := by
  unfold termText; rw [dif_pos h]
  exact ⟨_, (Classical.choose_spec (termOk_tree h)).1, (Classical.choose_spec (termOk_tree h)).2, rfl⟩
theorem termOk_pos {people : Int} {t : List Mark} (h : termOk people t = true) : 1 ≤ t.length := by
  obtain ⟨T, _, rfl, _⟩ := termText_tree h; exact T.marks_pos
theorem tm_text_pos : ∀ T : Tm, T.text ≠ []
  | .tells i => by simp [Tm.text]
  | .count i => by simp [Tm.text]
  | .not a => by simp [Tm.text]
  | .bin k a b => by simp [Tm.text]
theorem termText_pos {people : Int} {t : List Mark} (h : termOk people t = true) : termText people t ≠ [] := by
  obtain ⟨T, _, _, h3⟩ := termText_tree h; rw [← h3]; exact tm_text_pos T
/-- What ReadTerm finds. -/
noncomputable def readT (people : Int) (s : List UInt8) : Option (List Mark) := by
  classical exact if h : s.length ≤ 60 ∧ ∃ t, termOk people t = true ∧ termText people t = s then some (Classical.choose h.2) else none
theorem text_inj {people : Int} {t u : List Mark} (ht : termOk people t = true) (hu : termOk people u = true) (h : termText people t = termText people u) : t = u := by
  obtain ⟨T, a1, a2, a3⟩ := termText_tree ht
  obtain ⟨U, b1, b2, b3⟩ := termText_tree hu
  have e1 := read_text atomI_ok T a1 _ (Nat.le_refl _)
  have e2 := read_text atomI_ok U b1 _ (Nat.le_refl _)
  have : T.text = U.text := by rw [a3, b3, h]
  rw [this, e2] at e1
  have := congrArg R.ms e1
  simp only at this
  rw [← a2, ← b2, this]
theorem readT_some {people : Int} {s : List UInt8} {t : List Mark} (hl : s.length ≤ 60) (h : termOk people t = true) (hs : termText people t = s) : readT people s = some t := by
  have hx : s.length ≤ 60 ∧ ∃ t, termOk people t = true ∧ termText people t = s := ⟨hl, t, h, hs⟩
  unfold readT; rw [dif_pos hx]
  have := Classical.choose_spec hx.2
  exact congrArg some (text_inj this.1 h (by rw [this.2, hs]))
theorem readT_is {people : Int} {s : List UInt8} {t : List Mark} (h : readT people s = some t) : s.length ≤ 60 ∧ termOk people t = true ∧ termText people t = s := by
  unfold readT at h
  split at h
  · rename_i hx; cases h; exact ⟨hx.1, Classical.choose_spec hx.2⟩
  · cases h
theorem readT_none {people : Int} {s : List UInt8} (h : ∀ t, s.length ≤ 60 → termOk people t = true → termText people t ≠ s) : readT people s = none := by
  unfold readT; rw [dif_neg]; rintro ⟨hl, t, h1, h2⟩; exact h t hl h1 h2
/-- What the code does: read, then compare. -/
theorem readT_code {people : Int} {s : List UInt8} {A : UInt8 → Option Mark} (hA : AOk A) (hl : s.length ≤ 60) :
    readT people s = if (rSame A s.length s).ok = true ∧ (rSame A s.length s).rest = [] ∧ termOk people (rSame A s.length s).ms = true ∧ termText people (rSame A s.length s).ms = s then some (rSame A s.length s).ms else none := by
  split
  · rename_i h; exact readT_some hl h.2.2.1 h.2.2.2
  · rename_i h
    refine readT_none fun t _ h1 h2 => h ?_
    obtain ⟨T, a1, a2, a3⟩ := termText_tree h1
    have e := read_text hA T a1 s.length (by rw [a3, h2]; exact Nat.le_refl _)
    rw [a3, h2] at e
    rw [e]
    exact ⟨rfl, rfl, by rw [a2]; exact h1, by rw [a2]; exact h2⟩
end TL

/- Reading terms: the program's code. -/
set_option linter.unusedSimpArgs false
set_option linter.unusedVariables false
set_option maxRecDepth 100000
set_option maxHeartbeats 4000000
set_option pp.maxSteps 1500
namespace TL
open Go Go.Proofs
attribute [local simp] marksV storyV codeV Claim.v Place.v
def cutB (s : List UInt8) (c : UInt8) : List UInt8 × Bool := match s with
  | [] => ([], false)
  | x :: r => if x = c then (r, true) else (x :: r, false)
/-- What a reader gives back: a row of its own. -/
structure RPost (m : Mem) (n : Nat) (r : R) (t : T) (m' : Mem) (n' : Nat) : Prop where
  le : n ≤ n'
  out : ∀ j, j < n → m' j = m j
  res : ∃ st, t = .tup [st, .v (.str r.rest), .v (.bool r.ok)] ∧ IsRow m' n n' 56 st (r.ms.map Mark.v) ∧ (r.ok = true → st ≠ .nil)
abbrev RFn (f : Nat) (L : Nat) (p : List UInt8 → R) : Prop := ∀ s : List UInt8, s.length ≤ L → ∀ m n, FnS Try.prog f m n [.v (.str s)] (RPost m n (p s))
/-- The loop of readRow. -/
def Irr (m0 : Mem) (n0 : Nat) (F : Nat) (p : List UInt8 → R) (sg : UInt8) (k : Int) (f : Nat) (G : R) (s : S) : Prop := ∃ (ms : List Mark) (rest : List UInt8) (ok : Bool) (st : T) (g : Nat),
  s.tm 0 = .v (.str rest) ∧ s.tm 1 = .v (.str [sg]) ∧ s.tm 2 = .v (.int .i64 k) ∧ s.tm 3 = .fn f [] ∧ s.tm 11 = st ∧ s.tm 12 = .v (.bool ok) ∧ s.mu = false ∧ n0 ≤ s.n ∧ (∀ j, j < n0 → s.m j = m0 j) ∧
  IsRow s.m n0 s.n 56 st (ms.map Mark.v) ∧ rest.length ≤ g ∧ rest.length ≤ F ∧ ms.length + rest.length ≤ F ∧ (ok = true → st ≠ .nil ∧ G = rLoop p sg k g ms rest) ∧ (ok = false → G = ⟨[], rest, false⟩)
def lenOf : T → Nat
  | .v (.str s) => s.length + 1
  | .v (.bool b) => if b then 1 else 0
  | _ => 0
@[simp] theorem lenOf_str (s : List UInt8) : lenOf (.v (.str s)) = s.length + 1 := rfl
@[simp] theorem lenOf_bool (b : Bool) : lenOf (.v (.bool b)) = if b then 1 else 0 := rfl
def Xrr (m0 : Mem) (n0 : Nat) (G : R) (s : S) : Prop := ∃ rest : List UInt8, s.tm 0 = .v (.str rest) ∧ G = ⟨[], rest, false⟩ ∧ n0 ≤ s.n ∧ ∀ j, j < n0 → s.m j = m0 j
theorem cutB_len (s : List UInt8) (c : UInt8) : (cutB s c).1.length ≤ s.length := by
  unfold cutB; split
  · simp
  · split <;> simp
theorem cut_no {p : List UInt8 → R} {sg : UInt8} {k : Int} {g : Nat} {ms : List Mark} {rest : List UInt8} (h : (cutB rest sg).2 = false) : rLoop p sg k g ms rest = ⟨ms, rest, true⟩ := by
  cases g with
  | zero => rfl
  | succ g =>
    cases rest with
    | nil => rfl
    | cons c r =>
      simp only [rLoop]
      by_cases hc : c = sg
      · subst hc; simp [cutB] at h
      · rw [if_neg hc]
theorem cut_yes {p : List UInt8 → R} {sg : UInt8} {k : Int} {g : Nat} {ms : List Mark} {rest : List UInt8} (hg : rest.length ≤ g) (h : (cutB rest sg).2 = true) :
    ∃ g', (cutB rest sg).1.length ≤ g' ∧ (cutB rest sg).1.length + 1 = rest.length ∧ rLoop p sg k g ms rest = if (p (cutB rest sg).1).ok = true then rLoop p sg k g' (ms ++ (p (cutB rest sg).1).ms ++ [⟨k, 0⟩]) (p (cutB rest sg).1).rest else ⟨[], (p (cutB rest sg).1).rest, false⟩ := by
  cases rest with
  | nil => cases h
  | cons c r =>
    have hc : c = sg := by
      unfold cutB at h; simp only at h
      split at h
      · assumption
      · cases h
    subst hc
    have e : (cutB (c :: r) c).1 = r := by simp [cutB]
    rw [e]
    cases g with
    | zero => simp at hg
    | succ g => exact ⟨g, by simpa using hg, by simp, by simp only [rLoop, if_true]⟩
theorem pack (s : List UInt8) {r : R} {m m' : Mem} {n n' : Nat} {st : T} (h1 : n ≤ n') (h2 : ∀ j, j < n → m' j = m j) (h3 : IsRow m' n n' 56 st (r.ms.map Mark.v)) (h4 : r.ok = true → st ≠ .nil) : RPost m n r (.tup [st, .v (.str r.rest), .v (.bool r.ok)]) m' n' :=
  ⟨h1, h2, st, rfl, h3, h4⟩
theorem RPost.mk' {r : R} {m m' : Mem} {n n' : Nat} {st : T} {a : List UInt8} {b : Bool} (h1 : n ≤ n') (h2 : ∀ j, j < n → m' j = m j) (h3 : IsRow m' n n' 56 st (r.ms.map Mark.v)) (h4 : b = true → st ≠ .nil) (ha : r.rest = a) (hb : r.ok = b) : RPost m n r (.tup [st, .v (.str a), .v (.bool b)]) m' n' := by
  subst ha; subst hb; exact ⟨h1, h2, st, rfl, h3, h4⟩
/-- What readPart does with its first sign. -/
theorem rPart_letter (f : Nat) (c : UInt8) (s : List UInt8) (h1 : 97 ≤ c.toNat) (h2 : c.toNat ≤ 122) : rPart atomI (f + 1) (c :: s) = ⟨[⟨0, (c.toNat : Int) - 97⟩], s, true⟩ := rPart_one _ _ _ _ _ (if_pos ⟨h1, h2⟩)
theorem rPart_digit (f : Nat) (c : UInt8) (s : List UInt8) (h0 : ¬ (97 ≤ c.toNat ∧ c.toNat ≤ 122)) (h1 : 48 ≤ c.toNat) (h2 : c.toNat ≤ 57) : rPart atomI (f + 1) (c :: s) = ⟨[⟨1, (c.toNat : Int) - 48⟩], s, true⟩ := rPart_one _ _ _ _ _ (by unfold atomI; rw [if_neg h0, if_pos ⟨h1, h2⟩])
theorem rPart_else (A : UInt8 → Option Mark) (f : Nat) (c : UInt8) (s : List UInt8) (h : A c = none) (h1 : c ≠ 33) (h2 : c ≠ 40) : rPart A (f + 1) (c :: s) = ⟨[], c :: s, false⟩ := by
  show (match A c with
    | some m => _
    | none => _) = _
  rw [h]; simp only; rw [if_neg h1, if_neg h2]
theorem atomI_none {c : UInt8} (h0 : ¬ (97 ≤ c.toNat ∧ c.toNat ≤ 122)) (h1 : ¬ (48 ≤ c.toNat ∧ c.toNat ≤ 57)) : atomI c = none := by unfold atomI; rw [if_neg h0, if_neg h1]
end TL
