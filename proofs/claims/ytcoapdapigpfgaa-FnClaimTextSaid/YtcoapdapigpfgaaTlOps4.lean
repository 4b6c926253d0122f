/- TL, part 11: numbers, texts, comparisons, conversions. -/
import Derived.Test.YtcoapdapigpfgaaTlOps3
set_option linter.unusedVariables false
set_option linter.unusedSimpArgs false
namespace TL
open Go Go.RowKit

section
variable {P : Program} {φ : Phi} {Z : Zs} {m : Mem} {n : Nat} {w : World}

theorem intBin_sound {op : BinOp} {k k' : IntKind} {a b : Int} {r : V} (h : bin op (.int k a) (.int k' b) = some r) (t : Nat) :
    ∃ v, (binOp op t (.int k a) (.int k' b)).run P w = .ok v w ∧ RepV Z w r v := by
  cases op <;> simp only [bin] at h
  case shl =>
    simp only [intBin] at h; split at h; · cases h
    rename_i hb; cases h
    refine ⟨_, ?_, .int _ _⟩
    simp [binOp, Op.shift, hb]
  case shr =>
    simp only [intBin] at h; split at h; · cases h
    rename_i hb; cases h
    refine ⟨_, ?_, .int _ _⟩
    simp [binOp, Op.shift, hb]
  all_goals
    split at h
    · rename_i hk
      subst hk
      simp only [intBin] at h
      first
      | (cases h
         first
         | (refine ⟨.int k _, ?_, .int _ _⟩; simp only [binOp, Op.intArith, ne_eq, not_true_eq_false, if_false, Sem.run_pure]; done)
         | (refine ⟨.int k _, ?_, .int _ _⟩; simp only [binOp, Op.intBits, ne_eq, not_true_eq_false, if_false, Sem.run_pure]; done)
         | (refine ⟨.bool _, ?_, .bool _⟩; simp [binOp, Op.intCmp]; done)
         | (refine ⟨.bool _, ?_, .bool _⟩; simp [binOp, Op.intCmp]; rfl))
      | (split at h
         · cases h
         · rename_i hb; cases h; refine ⟨.int k _, ?_, .int _ _⟩; simp [binOp, Op.intDiv, hb]; done)
      | (split at h
         · cases h
         · rename_i hb; cases h; refine ⟨.int k _, ?_, .int _ _⟩; simp [binOp, Op.intDiv, hb]; rfl)
    · cases h
theorem boolBin_sound {op : BinOp} {a b : Bool} {r : V} (h : bin op (.bool a) (.bool b) = some r) {t : Nat} (x y : Operand) (hb : P.underlying t = some .bool) :
    ∃ v, (do eqGuard op t x y (.bool a) (.bool b); binOp op t (.bool a) (.bool b)).run P w = .ok v w ∧ RepV Z w r v := by
  cases op <;> simp only [bin] at h <;> first | (cases h; done) | skip
  · cases h; exact ⟨.bool (a == b), by simp [eqGuard, binOp, Op.equal, Op.maxDepth, run_equalIn_bool', hb], .bool _⟩
  · cases h; exact ⟨.bool (!(a == b)), by simp [eqGuard, binOp, Op.equal, Op.maxDepth, run_equalIn_bool', hb], .bool _⟩
theorem strBin_sound {op : BinOp} {a b : ByteArray} {r : V} (h : bin op (.str a.data.toList) (.str b.data.toList) = some r) (t : Nat) :
    ∃ v, (binOp op t (.string a) (.string b)).run P w = .ok v w ∧ RepV Z w r v := by
  cases op <;> simp only [bin] at h <;> first | (cases h; done) | skip
  case add =>
    split at h
    · rename_i hl
      cases h
      refine ⟨.string (a ++ b), ?_, .str (by simp [ByteArray.data_append])⟩
      have : a.size + b.size ≤ 9223372036854775807 := by
        have e1 : a.data.toList.length = a.size := Array.length_toList
        have e2 : b.data.toList.length = b.size := Array.length_toList
        rw [e1, e2] at hl; omega
      simp [binOp, run_string_add_sum w a b this]
    · cases h
  case eql =>
    cases h
    have e : (a.toList == b.toList) = decide (a.data.toList = b.data.toList) := by rw [ByteArray.toList_eq, ByteArray.toList_eq]; exact Bool.eq_iff_iff.2 (by simp)
    exact ⟨.bool (a.toList == b.toList), by simp only [binOp, Op.stringOp, Sem.run_pure], e ▸ .bool _⟩
  case neq =>
    cases h
    have e : (!(a.toList == b.toList)) = decide (a.data.toList ≠ b.data.toList) := by rw [ByteArray.toList_eq, ByteArray.toList_eq]; exact Bool.eq_iff_iff.2 (by simp)
    exact ⟨.bool (!(a.toList == b.toList)), by simp only [binOp, Op.stringOp, Sem.run_pure], e ▸ .bool _⟩

theorem run_eqGuard_int (op : BinOp) (t : Nat) (x y : Operand) (k k' : IntKind) (a b : Int) : (eqGuard op t x y (.int k a) (.int k' b)).run P w = .ok () w := by cases op <;> simp [eqGuard]
theorem run_eqGuard_str (op : BinOp) (t : Nat) (x y : Operand) (a b : ByteArray) : (eqGuard op t x y (.string a) (.string b)).run P w = .ok () w := by cases op <;> simp [eqGuard]

/-! structs that are compared -/
theorem kindsFrom_cons {i : Nat} {f : Field} {fs : List Field} {ks : List Nat} (h : kindsFrom P i (f :: fs) = some ks) :
    f.name ≠ "_" ∧ f.offset = i ∧ ∃ k ks', ks = k :: ks' ∧ kindsFrom P (i + 1) fs = some ks' ∧ (k = 0 ∧ P.underlying f.type = some .bool ∨ k = 1 ∧ (∃ q, P.underlying f.type = some (.int q)) ∨ k = 2 ∧ P.underlying f.type = some .string) := by
  unfold kindsFrom at h
  split at h
  · rename_i hc
    refine ⟨hc.1, hc.2, ?_⟩
    cases hu : P.underlying f.type with
    | none => simp [hu] at h
    | some d =>
      rw [hu] at h
      cases d <;> simp only [Option.bind_none, Option.bind_some, Option.map_eq_some_iff] at h <;> first | (cases h; done) | skip
      · obtain ⟨ks', h1, rfl⟩ := h; exact ⟨0, ks', rfl, h1, .inl ⟨rfl, rfl⟩⟩
      · obtain ⟨ks', h1, rfl⟩ := h; exact ⟨1, ks', rfl, h1, .inr (.inl ⟨rfl, _, rfl⟩)⟩
      · obtain ⟨ks', h1, rfl⟩ := h; exact ⟨2, ks', rfl, h1, .inr (.inr ⟨rfl, rfl⟩)⟩
  · cases h
theorem part_cell {t : Nat} {us : Array Value} {i : Nat} {u : Value} (hu : us[i]? = some u) (h : P.underlying t = some .bool ∨ (∃ q, P.underlying t = some (.int q)) ∨ P.underlying t = some .string) : (part t us i).run P w = .ok u w := by
  have : (isAgg t).run P w = .ok false w := by
    rcases h with h | ⟨q, h⟩ | h <;> simp [isAgg, run_underlying h]
  simp [part, this, hu]
theorem eqFields_sound {d : Nat} : ∀ (fs : List Field) (i : Nat) (ks : List Nat) (as bs : List V) (us vs : List Value) (U W : Array Value) (q : Bool), kindsFrom P i fs = some ks → RepCs Z w as us → RepCs Z w bs vs →
    (∀ j, us[j]? = U[i + j]?) → (∀ j, vs[j]? = W[i + j]?) → cellsEq ks as bs = some q → (Op.eqFields (d + 1) U W fs).run P w = .ok q w := by
  intro fs
  induction fs with
  | nil =>
    intro i ks as bs us vs U W q hk ha hb hU hW hq
    simp [kindsFrom] at hk; subst hk
    cases as <;> cases bs <;> simp [cellsEq] at hq
    subst hq; simp [Op.eqFields]
  | cons f fs ih =>
    intro i ks as bs us vs U W q hk ha hb hU hW hq
    obtain ⟨hn, ho, k, ks', rfl, hk', hc⟩ := kindsFrom_cons hk
    have hty : P.underlying f.type = some .bool ∨ (∃ q, P.underlying f.type = some (.int q)) ∨ P.underlying f.type = some .string := by
      rcases hc with ⟨_, h⟩ | ⟨_, h⟩ | ⟨_, h⟩
      · exact .inl h
      · exact .inr (.inl h)
      · exact .inr (.inr h)
    cases ha with
    | nil => rcases hc with ⟨rfl, _⟩ | ⟨rfl, _⟩ | ⟨rfl, _⟩ <;> cases bs <;> simp [cellsEq] at hq
    | @cons a u as us ca ra ta =>
      cases hb with
      | nil => rcases hc with ⟨rfl, _⟩ | ⟨rfl, _⟩ | ⟨rfl, _⟩ <;> cases a <;> simp [cellsEq] at hq
      | @cons b v bs vs cb rb tb =>
        have hu : U[i]? = some u := by have := hU 0; simpa using this.symm
        have hv : W[i]? = some v := by have := hW 0; simpa using this.symm
        have hU' : ∀ j, us[j]? = U[i + 1 + j]? := fun j => by have := hU (j + 1); simp only [List.getElem?_cons_succ] at this; rw [this]; congr 1; omega
        have hW' : ∀ j, vs[j]? = W[i + 1 + j]? := fun j => by have := hW (j + 1); simp only [List.getElem?_cons_succ] at this; rw [this]; congr 1; omega
        have step : ∀ q1 q2, (Op.equalIn (d + 1) f.type u v).run P w = .ok q1 w → cellsEq ks' as bs = some q2 → q = (q1 && q2) → (Op.eqFields (d + 1) U W (f :: fs)).run P w = .ok q w := by
          intro q1 q2 h1 h2 h3
          subst ho
          simp only [Op.eqFields, ne_eq, hn, not_false_eq_true, if_true, Sem.run_bind, part_cell hu hty, part_cell hv hty, Result.andThen_ok, h1]
          cases q1
          · simp [h3]
          · simp only [Bool.not_true, Bool.false_eq_true, if_false]
            rw [h3, Bool.true_and]
            exact ih _ ks' as bs us vs U W q2 hk' ta tb hU' hW' h2
        rcases hc with ⟨rfl, ht⟩ | ⟨rfl, kq, ht⟩ | ⟨rfl, ht⟩
        · cases a <;> cases b <;> simp only [cellsEq] at hq <;> first | (cases hq; done) | skip
          simp only [Option.map_eq_some_iff] at hq
          obtain ⟨q2, h2, rfl⟩ := hq
          cases ra; cases rb
          exact step _ q2 (run_equalIn_bool' w d _ _ _ ht) h2 rfl
        · cases a <;> cases b <;> simp only [cellsEq] at hq <;> first | (cases hq; done) | skip
          obtain ⟨hkk, hq⟩ := tst_eq hq
          simp only [Option.map_eq_some_iff] at hq
          obtain ⟨q2, h2, rfl⟩ := hq
          subst hkk
          cases ra; cases rb
          refine step _ q2 (run_equalIn_int w d _ _ _ _ _ ht) h2 ?_
          congr 1
        · cases a <;> cases b <;> simp only [cellsEq] at hq <;> first | (cases hq; done) | skip
          simp only [Option.map_eq_some_iff] at hq
          obtain ⟨q2, h2, rfl⟩ := hq
          cases ra with | str ra => cases rb with | str rb =>
          refine step _ q2 (run_equalIn_string w d _ _ _ ht) h2 ?_
          rw [ByteArray.toList_eq, ByteArray.toList_eq, ra, rb]
          congr 1
          exact Bool.eq_iff_iff.2 (by simp)
theorem eqKinds_spec {t : Nat} {ks : List Nat} (h : eqKinds P t = some ks) : P.underlying t = some (.struct (P.fieldsOf t)) ∧ P.stoodInHeld t = false ∧ P.eqGuardType P.depth t = false ∧ kindsFrom P 0 (P.fieldsOf t).toList = some ks := by
  unfold eqKinds at h
  split at h
  · rename_i fs hu
    split at h
    · rename_i hc
      simp at hc
      have : P.fieldsOf t = fs := by simp [Program.fieldsOf, hu]
      rw [this]; exact ⟨hu, hc.1, hc.2, h⟩
    · cases h
  · cases h
theorem structEq_sound {op : BinOp} {t : Nat} {ks : List Nat} {a b : V} {u v : Value} {x : T} (x1 y1 : Operand) (hk : eqKinds P t = some ks) (ha : RepV Z w a u) (hb : RepV Z w b v) (hx : structEq op ks a b = some x) :
    ∃ r, (do eqGuard op t x1 y1 u v; binOp op t u v).run P w = .ok r w ∧ RepT φ Z w x r := by
  obtain ⟨h1, h2, h3, h4⟩ := eqKinds_spec hk
  cases a <;> cases b <;> simp only [structEq] at hx <;> first | (cases hx; done) | skip
  obtain ⟨q, hq, hx⟩ := obind_eq hx
  cases ha with | agg ha => cases hb with | agg hb =>
  rename_i us vs
  have he : (Op.equalIn 10000 t (.agg us.toArray) (.agg vs.toArray)).run P w = .ok q w := by
    rw [run_equalIn_struct w 9999 t us.toArray vs.toArray h1 h2]
    exact eqFields_sound (d := 9998) _ 0 ks _ _ us vs us.toArray vs.toArray q h4 ha hb (by simp) (by simp) hq
  cases op <;> simp only at hx <;> first | (cases hx; done) | skip
  · cases hx; refine ⟨.bool q, ?_, rep_bool _⟩
    simp only [Sem.run_bind, run_eqGuard_agg w .eql t x1 y1 _ _ h3, Result.andThen_ok, run_eql_struct, he]
  · cases hx; refine ⟨.bool (!q), ?_, rep_bool _⟩
    simp only [Sem.run_bind, run_eqGuard_agg w .neq t x1 y1 _ _ h3, Result.andThen_ok, run_neq_struct, he]

theorem isBool_spec {t : Nat} (h : isBool P t = some true) : P.underlying t = some .bool := by
  unfold isBool at h; cases hu : P.underlying t with
  | none => simp [hu] at h
  | some d => simp only [hu, Option.map_some, Option.some.injEq] at h; split at h <;> simp at h; rfl
theorem evBin_sound (hm : RelM P φ Z m n w) {op : BinOp} {t : Nat} {a b x : T} {u v : Value} (x1 y1 : Operand) (h : RepT φ Z w a u) (g : RepT φ Z w b v) (hx : evBin P m op t a b = some x) :
    ∃ r, (do eqGuard op t x1 y1 u v; binOp op t u v).run P w = .ok r w ∧ RepT φ Z w x r := by
  have struct : (obind (eqKinds P t) fun ks => obind (bor false m 2 a) fun a => obind (bor false m 2 b) fun b => structEq op ks a b) = some x →
      ∃ r, (do eqGuard op t x1 y1 u v; binOp op t u v).run P w = .ok r w ∧ RepT φ Z w x r := by
    intro hx
    obtain ⟨ks, hks, hx⟩ := obind_eq hx
    obtain ⟨a', ha, hx⟩ := obind_eq hx
    obtain ⟨b', hb, hx⟩ := obind_eq hx
    exact structEq_sound x1 y1 hks (bor_sound hm (Zb := Z) (fun _ _ h => h) (by simp) 2 _ _ _ h ha) (bor_sound hm (Zb := Z) (fun _ _ h => h) (by simp) 2 _ _ _ g hb) hx
  unfold evBin at hx
  split at hx
  · obtain rfl := int_rep h; obtain rfl := int_rep g
    obtain ⟨r, hr, hx⟩ := obind_eq hx; cases hx
    obtain ⟨v, h1, h2⟩ := intBin_sound (P := P) (Z := Z) (w := w) hr t
    exact ⟨v, by simp [run_eqGuard_int, h1], .v h2⟩
  · cases h with | v h => cases h with | bool => cases g with | v g => cases g with | bool =>
    obtain ⟨hb, hx⟩ := tst_eq hx
    obtain ⟨r, hr, hx⟩ := obind_eq hx; cases hx
    obtain ⟨v, h1, h2⟩ := boolBin_sound (P := P) (Z := Z) (w := w) hr x1 y1 (isBool_spec hb)
    exact ⟨v, h1, .v h2⟩
  · obtain ⟨s, rfl, rfl⟩ := str_rep h; obtain ⟨s', rfl, rfl⟩ := str_rep g
    obtain ⟨r, hr, hx⟩ := obind_eq hx; cases hx
    obtain ⟨v, h1, h2⟩ := strBin_sound (P := P) (Z := Z) (w := w) hr t
    exact ⟨v, by simp [run_eqGuard_str, h1], .v h2⟩
  · exact struct hx

theorem toBytes_spec : ∀ (xs : List V) (s : List UInt8), toBytes xs = some s → ∃ ns : List Int, xs = ns.map (V.int .u8) ∧ s = ns.map fun n => UInt8.ofNat n.toNat
  | [], s, h => by simp [toBytes] at h; exact ⟨[], rfl, by simp [h]⟩
  | .int .u8 n :: xs, s, h => by
    simp only [toBytes, Option.map_eq_some_iff] at h
    obtain ⟨s', h1, rfl⟩ := h
    obtain ⟨ns, rfl, rfl⟩ := toBytes_spec xs s' h1
    exact ⟨n :: ns, rfl, rfl⟩
theorem sl_slice {xs : List V} {u : Value} (h : RepV Z w (.sl xs) u) : ∃ A l c, u = .slice A l c := by cases h <;> exact ⟨_, _, _, rfl⟩
theorem bytes_rep {z : Nat} : ∀ (ns : List Int) (us : List Value), RepEs Z w z (ns.map (V.int .u8)) us → us = ns.map (Value.int .u8)
  | [], us, h => by cases h; rfl
  | n :: ns, us, h => by
    cases h with
    | one hc h t => cases h; rw [bytes_rep ns _ t]; rfl
theorem evConvert_sound (hm : RelM P φ Z m n w) {src dst : Nat} {a x : T} {u : Value} (h : RepT φ Z w a u) (hx : evConvert P src dst m a = some x) : ∃ v, (convert src dst u).run P w = .ok v w ∧ RepT φ Z w x v := by
  have general : (tst (isStr P dst = some true) (obind (elT P src) fun e => tst (intK P e = some .u8) (obind (elems m a) fun xs => (toBytes xs).map fun s => T.v (.str s)))) = some x → ∃ v, (convert src dst u).run P w = .ok v w ∧ RepT φ Z w x v := by
    intro hx
    obtain ⟨hd, hx⟩ := tst_eq hx
    obtain ⟨e, he, hx⟩ := obind_eq hx
    obtain ⟨hk, hx⟩ := tst_eq hx
    obtain ⟨xs, hxs, hx⟩ := obind_eq hx
    simp only [Option.map_eq_some_iff] at hx
    obtain ⟨s, hs, rfl⟩ := hx
    obtain ⟨ns, rfl, rfl⟩ := toBytes_spec _ _ hs
    have hr := elems_rep hm h hxs
    obtain ⟨A, l, c, rfl⟩ := sl_slice hr
    rw [run_convert_bytes_string w src dst e A l c (und_of_elT he) (und_of_intK hk) (und_of_isStr hd)]
    cases A with
    | none =>
      have : ns = [] := by
        generalize hq : ns.map (V.int .u8) = ys at hr
        cases hr with
        | nil => simpa using hq
      subst this
      exact ⟨.string ByteArray.empty, by simp [Conv.bytesToString], .v (.str rfl)⟩
    | some ad =>
      have hl : (loadCells ad l).run P w = .ok (ns.map (Value.int .u8)).toArray w ∧ True := by
        refine ⟨?_, trivial⟩
        generalize hq : ns.map (V.int .u8) = ys at hr
        cases hr with
        | nil => obtain rfl : ns = [] := by simpa using hq
                 simp [loadCells, loadCellsFrom]
        | @sl z _ us _ _ _ hes hn hc hmm hz =>
          subst hq
          have hu : us = ns.map (Value.int .u8) := bytes_rep ns us hes
          have := run_loadCells_list (P := P) w ad us fun j v hv => (hz j v hv).1
          rw [hu] at this
          simp only [List.length_map] at this hn
          rw [← hn]; exact this
      refine ⟨_, run_bytesToString w ad l c ns hl.1, .v (.str ?_)⟩
      rw [foldl_push_bytes]
      simp [ByteArray.empty, ByteArray.emptyWithCapacity]
      rfl
  unfold evConvert at hx
  split at hx
  · obtain rfl := int_rep h
    obtain ⟨k', hk', hx⟩ := obind_eq hx
    obtain ⟨k, hk, hx⟩ := obind_eq hx; cases hx
    exact ⟨.int k (k.wrap _), by simp [convert, run_underlying (und_of_intK hk), run_underlying (und_of_intK hk'), Conv.intToInt], rep_int _ _⟩
  · obtain ⟨s, rfl, rfl⟩ := str_rep h
    obtain ⟨⟨h1, h2⟩, hx⟩ := tst_eq hx; cases hx
    exact ⟨.string s, by simp [convert, run_underlying (und_of_isStr h1), run_underlying (und_of_isStr h2)], .v (.str rfl)⟩
  · exact general hx
end
end TL
