/- TL, part 3: the rules by which simp runs the code. -/
import Derived.Test.YtcoapdapigpfgaaDoorTlTwp
namespace TL
open Go

section
variable {P : Program} {Q : TExit → S → Prop} {s : S}
@[simp] theorem twp_skip : twp P .skip Q s = Q .normal s := by simp [twp]
@[simp] theorem twp_seq (a b : Code) : twp P (.seq a b) Q s = twp P a (fun e s => thenP (fun s => twp P b Q s) Q e s) s := by simp [twp]
@[simp] theorem twp_cond (c : Operand) (a b : Code) : twp P (.cond c a b) Q s = bindP (boolOf (s.ev c)) fun q => iteP q (twp P a Q s) (twp P b Q s) := by simp [twp]
@[simp] theorem twp_block (i : Nat) (c : Code) : twp P (.block i c) Q s = twp P c (fun e s => blockP i Q e s) s := by simp [twp]
@[simp] theorem twp_exit (i : Nat) : twp P (.exit i) Q s = Q (.exit i) s := by simp [twp]
@[simp] theorem twp_ret : twp P .ret Q s = Q .ret s := by simp [twp]
@[simp] theorem twp_region (i : Nat) (l : List Oper) : twp P (.region i l.toArray false) Q s = opsP P l l (fun s => Q .normal s) s := by simp [twp]
@[simp] theorem thenP_normal (A : S → Prop) : thenP A Q .normal s = A s := nrfl
@[simp] theorem thenP_exit (A : S → Prop) (i : Nat) : thenP A Q (.exit i) s = Q (.exit i) s := nrfl
@[simp] theorem thenP_ret (A : S → Prop) : thenP A Q .ret s = Q .ret s := nrfl
@[simp] theorem blockP_normal (i : Nat) : blockP i Q .normal s = Q .normal s := nrfl
@[simp] theorem blockP_exit_same (i : Nat) : blockP i Q (.exit i) s = Q .normal s := if_pos rfl
@[simp] theorem blockP_exit (i j : Nat) : blockP i Q (.exit j) s = iteP (decide (j = i)) (Q .normal s) (Q (.exit j) s) := by simp [blockP, iteP]
@[simp] theorem blockP_ret (i : Nat) : blockP i Q .ret s = Q .ret s := nrfl
theorem twp_draw {i : Nat} {l : List Oper} (ord ids : List Nat) (L K : List (List Nat)) (hf : P.follows .mixedOrders = true) (hn : Region.noSelect l.toArray = true) (hl : ord.length = l.toArray.size) (hk : ordOk l.toArray L K ord (Array.replicate l.toArray.size false) = true) (h : ordP P l ids L K (fun s => Q .normal s) ord s) : twp P (.region i l.toArray true) Q s := by
  unfold twp; rw [if_pos rfl]; exact ⟨hf, .inl ⟨ord, ids, L, K, hn, hl, hk, h⟩⟩
theorem twp_drawT {i : Nat} {l : List Oper} (t : OT) (ids : List Nat) (L K : List (List Nat)) (hf : P.follows .mixedOrders = true) (hn : Region.noSelect l.toArray = true) (hl : t.size = l.toArray.size) (hk : otOk l.toArray L K t false (Array.replicate l.toArray.size false) = true) (h : ordT P l ids L K (fun s => Q .normal s) t s) : twp P (.region i l.toArray true) Q s := by
  unfold twp; rw [if_pos rfl]; exact ⟨hf, .inr ⟨t, ids, L, K, hn, hl, hk, h⟩⟩
@[simp] theorem ordT_done (all : List Oper) (ids : List Nat) (L K : List (List Nat)) (Q : S → Prop) : ordT P all ids L K Q .done s = Q s := nrfl
@[simp] theorem ordT_run (all : List Oper) (ids : List Nat) (L K : List (List Nat)) (Q : S → Prop) (l : List Nat) (r : OT) : ordT P all ids L K Q (.run l r) s = ordP P all ids L K (fun s => ordT P all ids L K Q r s) l s := nrfl
theorem ordT_alt (all : List Oper) (ids : List Nat) (L K : List (List Nat)) (Q : S → Prop) (a b : OT) : ordT P all ids L K Q (.alt a b) s = (ordT P all ids L K Q a s ∧ ordT P all ids L K Q b s) := nrfl
theorem ordT_both {all : List Oper} {ids : List Nat} {L K : List (List Nat)} {Q : S → Prop} {a b : OT} (h : ordT P all ids L K Q a s) (g : ordT P all ids L K Q b s) : ordT P all ids L K Q (.alt a b) s := ⟨h, g⟩
theorem twp_loop {c : Code} (I : S → Prop) (μ : S → Nat) (h : I s) (hs : ∀ s, I s → twp P c (fun e s1 => thenP (fun s' => I s' ∧ μ s' < μ s) Q e s1) s) : twp P (.loop c) Q s := by
  unfold twp; exact ⟨I, μ, h, hs⟩
end

section
variable {P : Program} {s : S}
@[simp] theorem opsP_nil (all : List Oper) (Q : S → Prop) : opsP P all [] Q s = Q s := nrfl
@[simp] theorem opsP_cons (all rest : List Oper) (o : Oper) (Q : S → Prop) : opsP P all (o :: rest) Q s = bindP (guardB all s o.guard) fun g => iteP g (opP P s o fun s' => opsP P all rest Q s') (opsP P all rest Q (s.put o.dst und)) := nrfl
@[simp] theorem opsP_cons_g (all rest : List Oper) (d : Option Nat) (op : Op) (ty : TypeId) (pos : String) (af : Array Edge) (Q : S → Prop) : opsP P all (⟨d, op, ty, pos, af, none⟩ :: rest) Q s = opP P s ⟨d, op, ty, pos, af, none⟩ fun s' => opsP P all rest Q s' := by simp [guardB]
@[simp] theorem guardB_none (all : List Oper) : guardB all s none = some true := rfl
@[simp] theorem guardB_some (all : List Oper) (j : Nat) (b : Bool) : guardB all s (some (j, b)) = obind (dstOf all j) fun d => guardOf b (s.tm d) := rfl
@[simp] theorem dstOf_zero (o : Oper) (all : List Oper) : dstOf (o :: all) 0 = o.dst := by simp [dstOf]
@[simp] theorem dstOf_succ (o : Oper) (all : List Oper) (j : Nat) : dstOf (o :: all) (j + 1) = dstOf all j := by simp [dstOf]
@[simp] theorem opAt_zero (o : Oper) (all : List Oper) : opAt (o :: all) 0 = some o := by simp [opAt]
@[simp] theorem opAt_succ (o : Oper) (all : List Oper) (j : Nat) : opAt (o :: all) (j + 1) = opAt all j := by simp [opAt]
@[simp] theorem ordP_nil (all : List Oper) (ids : List Nat) (L K : List (List Nat)) (Q : S → Prop) : ordP P all ids L K Q [] s = Q s := nrfl
theorem ordP_cons (all : List Oper) (ids : List Nat) (L K : List (List Nat)) (Q : S → Prop) (i : Nat) (rest : List Nat) : ordP P all ids L K Q (i :: rest) s = iteP (decide (1000 ≤ i)) (bindP (opAt all (i - 1000)) fun o => bindP (guardB all s o.guard) fun g => iteP g (pureC P s o fun d x => ordP P all ids L K Q rest (s.put d x)) (ordP P all ids L K Q rest (s.put o.dst und)))
      (bindP (opAt all i) fun o => bindP (guardB all s o.guard) fun g => iteP g
      (iteP (isVal o.op) (opP P (s.rs (idsAt ids L i)) o fun s' => ordP P all ids L K Q rest (s'.wm s.m s.n)) (opP P s o fun s' => keepP (idsAt ids K i) s.m s'.m ∧ ordP P all ids L K Q rest s'))
      (ordP P all ids L K Q rest (s.put o.dst und))) := nrfl
attribute [simp] isVal idsAt
@[simp] theorem keepP_nil (m m' : Mem) : keepP [] m m' = True := by simp [keepP]
@[simp] theorem keepP_cons (m m' : Mem) (i : Nat) (l : List Nat) : keepP (i :: l) m m' = (m' i = m i ∧ keepP l m m') := by simp [keepP]
@[simp] theorem rst_nil (m : Mem) (i : Nat) : rst m [] i = none := by simp [rst]
@[simp] theorem rst_cons (m : Mem) (i j : Nat) (l : List Nat) : rst m (j :: l) i = if i = j then m i else rst m l i := by
  by_cases h : i = j <;> simp [rst, h]
@[simp] theorem tm_rs (l : List Nat) : (s.rs l).tm = s.tm := rfl
@[simp] theorem m_rs (l : List Nat) : (s.rs l).m = rst s.m l := rfl
@[simp] theorem n_rs (l : List Nat) : (s.rs l).n = s.n := rfl
@[simp] theorem mu_rs (l : List Nat) : (s.rs l).mu = s.mu := rfl
@[simp] theorem tm_wm (m : Mem) (n : Nat) : (s.wm m n).tm = s.tm := rfl
@[simp] theorem m_wm (m : Mem) (n : Nat) : (s.wm m n).m = m := rfl
@[simp] theorem n_wm (m : Mem) (n : Nat) : (s.wm m n).n = n := rfl
@[simp] theorem mu_wm (m : Mem) (n : Nat) : (s.wm m n).mu = s.mu := rfl
@[simp] theorem boolOf_bool (b : Bool) : boolOf (.v (.bool b)) = some b := rfl
@[simp] theorem ev_tmp (t : Nat) : s.ev (.tmp t) = s.tm t := rfl
@[simp] theorem ev_const (v : Value) : s.ev (.const v) = const v := rfl
@[simp] theorem ev_func (f : Nat) : s.ev (.func f) = .fn f [] := rfl
@[simp] theorem const_bool (b : Bool) : const (.bool b) = .v (.bool b) := rfl
@[simp] theorem const_int (k : IntKind) (n : Int) : const (.int k n) = .v (.int k n) := rfl
@[simp] theorem const_str (b : ByteArray) : const (.string b) = .v (.str b.data.toList) := rfl
@[simp] theorem const_nil : const (.slice none 0 0) = .nil := rfl
@[simp] theorem const_agg (l : List Value) : const (.agg l.toArray) = .agg (l.map constCell) := by simp [const]
@[simp] theorem constCell_bool (b : Bool) : constCell (.bool b) = .v (.bool b) := rfl
@[simp] theorem constCell_int (k : IntKind) (n : Int) : constCell (.int k n) = .v (.int k n) := rfl
@[simp] theorem constCell_str (b : ByteArray) : constCell (.string b) = .v (.str b.data.toList) := rfl
@[simp] theorem constCell_nil : constCell (.slice none 0 0) = .nil := rfl
@[simp] theorem tm_app (d : Nat) (E : Eff) (t : Nat) : (s.app (some d) E).tm t = if t = d then E.val else s.tm t := rfl
@[simp] theorem tm_app_none (E : Eff) : (s.app none E).tm = s.tm := rfl
@[simp] theorem m_app (d : Option Nat) (E : Eff) : (s.app d E).m = applyUs s.m E.us := rfl
@[simp] theorem n_app (d : Option Nat) (E : Eff) : (s.app d E).n = bump s.n E.us := rfl
@[simp] theorem bump_nil (n : Nat) : bump n [] = n := rfl
@[simp] theorem bump_cons (n : Nat) (x : Nat × Option Blk) (xs : List (Nat × Option Blk)) : bump n (x :: xs) = n + 1 := rfl
@[simp] theorem const_ptr : const (.pointer none) = .v .any := rfl
@[simp] theorem mu_app (d : Option Nat) (E : Eff) : (s.app d E).mu = s.mu := rfl
@[simp] theorem tm_aft (d : Nat) (x : T) (m : Mem) (n : Nat) (t : Nat) : (s.aft (some d) x m n).tm t = if t = d then x else s.tm t := rfl
@[simp] theorem tm_aft_none (x : T) (m : Mem) (n : Nat) : (s.aft none x m n).tm = s.tm := rfl
@[simp] theorem m_aft (d : Option Nat) (x : T) (m : Mem) (n : Nat) : (s.aft d x m n).m = m := rfl
@[simp] theorem n_aft (d : Option Nat) (x : T) (m : Mem) (n : Nat) : (s.aft d x m n).n = n := rfl
@[simp] theorem mu_aft (d : Option Nat) (x : T) (m : Mem) (n : Nat) : (s.aft d x m n).mu = s.mu := rfl
@[simp] theorem tm_put (d : Nat) (x : T) (t : Nat) : (s.put (some d) x).tm t = if t = d then x else s.tm t := rfl
@[simp] theorem tm_put_none (x : T) : (s.put none x).tm = s.tm := rfl
@[simp] theorem m_put (d : Option Nat) (x : T) : (s.put d x).m = s.m := rfl
@[simp] theorem n_put (d : Option Nat) (x : T) : (s.put d x).n = s.n := rfl
@[simp] theorem mu_put (d : Option Nat) (x : T) : (s.put d x).mu = s.mu := rfl
@[simp] theorem applyUs_nil (m : Mem) : applyUs m [] = m := rfl
@[simp] theorem applyUs_cons (m : Mem) (i : Nat) (b : Option Blk) (us : List (Nat × Option Blk)) : applyUs m ((i, b) :: us) = applyUs (updM m i b) us := rfl
end

section
variable {P : Program} {s : S} {d : Option Nat} {ty : TypeId} {pos : String} {af : Array Edge} {gd : Option (Nat × Bool)} {K : S → Prop}
def callV (P : Program) (s : S) (args : List T) (d : Option Nat) (K : S → Prop) [Hd s] [Hd args] [Hd K] : T → Prop
  | .fn f cap => callP P f s.m s.n (args ++ cap) fun t m n => K (s.aft d t m n)
  | .v (.fn f cap) => callP P f s.m s.n (args ++ cap.map .v) fun t m n => K (s.aft d t m n)
  | _ => False
@[simp] theorem callV_fn (args cap : List T) (f : Nat) : callV P s args d K (.fn f cap) = callP P f s.m s.n (args ++ cap) fun t m n => K (s.aft d t m n) := nrfl
@[simp] theorem callV_vfn (args : List T) (cap : List V) (f : Nat) : callV P s args d K (.v (.fn f cap)) = callP P f s.m s.n (args ++ cap.map .v) fun t m n => K (s.aft d t m n) := nrfl
@[simp] theorem opP_call (g : Operand) (args : Array Operand) (ts : Array TypeId) : opP P s ⟨d, .call ⟨.value g, args, ts⟩, ty, pos, af, gd⟩ K = callV P s (args.toList.map s.ev) d K (s.ev g) := by
  unfold opP callV; simp only; split <;> simp_all
@[simp] theorem opP_builtin (b : Builtin) (args : Array Operand) (ts : Array TypeId) : opP P s ⟨d, .call ⟨.builtin b, args, ts⟩, ty, pos, af, gd⟩ K = bindP (evBuiltin P s.mu b ts.toList s.m s.n (args.toList.map s.ev)) fun E => K (s.app d E) := nrfl
@[simp] theorem opP_move (x : Operand) : opP P s ⟨d, .move x, ty, pos, af, gd⟩ K = bindP (some (s.ev x)) fun x => K (s.app d ⟨x, []⟩) := by simp [opP, opF]
@[simp] theorem opP_assign (x : Operand) : opP P s ⟨d, .assign x, ty, pos, af, gd⟩ K = bindP (some (s.ev x)) fun x => K (s.app d ⟨x, []⟩) := by simp [opP, opF]
@[simp] theorem opP_pick (c a b : Operand) : opP P s ⟨d, .pick c a b, ty, pos, af, gd⟩ K = bindP (obind (boolOf (s.ev c)) fun q => some (evPick q (s.ev a) (s.ev b))) fun x => K (s.app d ⟨x, []⟩) := by
  simp only [opP, opF]; cases boolOf (s.ev c) <;> simp
@[simp] theorem opP_not (t : TypeId) (x : Operand) : opP P s ⟨d, .unOp .not t x, ty, pos, af, gd⟩ K = bindP (boolOf (s.ev x)) fun b => K (s.app d ⟨.v (.bool !b), []⟩) := by
  simp only [opP, opF]; cases boolOf (s.ev x) <;> simp
@[simp] theorem opP_alloc (t : TypeId) : opP P s ⟨d, .alloc t, ty, pos, af, gd⟩ K = bindP (evAlloc P t s.n) fun E => K (s.app d E) := nrfl
@[simp] theorem opP_box (t : TypeId) (x : Operand) : opP P s ⟨d, .box t x, ty, pos, af, gd⟩ K = bindP (evBox P t s.n (s.ev x)) fun E => K (s.app d E) := nrfl
@[simp] theorem opP_buildSlice (t : TypeId) (len : Nat) (l : List (Nat × Operand)) : opP P s ⟨d, .buildSlice t len l.toArray, ty, pos, af, gd⟩ K = bindP (evBuildSlice P s.mu t s.m s.n len (l.map fun p => (p.1, s.ev p.2))) fun E => K (s.app d E) := nrfl
@[simp] theorem opP_makeFunc (f : Nat) (cap : List Operand) : opP P s ⟨d, .makeFunc (.func f) #[] cap.toArray, ty, pos, af, gd⟩ K = bindP (some (T.fn f (cap.map s.ev))) fun x => K (s.app d ⟨x, []⟩) := by simp [opP, opF]
@[simp] theorem opP_makeSlice (t : TypeId) (x y : Operand) : opP P s ⟨d, .makeSlice t x y, ty, pos, af, gd⟩ K = bindP (evMake P t s.n (s.ev x) (s.ev y)) fun E => K (s.app d E) := nrfl
@[simp] theorem opP_store (t : TypeId) (a x : Operand) : opP P s ⟨d, .store t a x, ty, pos, af, gd⟩ K = bindP (evStore P t s.m (s.ev x) (s.ev a)) fun u => K (s.app d ⟨.v .any, [u]⟩) := by
  simp only [opP, opF]; cases evStore P t s.m (s.ev x) (s.ev a) <;> simp
@[simp] theorem opP_build (t : TypeId) (l : List (Nat × Operand)) : opP P s ⟨d, .build t l.toArray, ty, pos, af, gd⟩ K = bindP (evBuild P t (l.map fun p => (p.1, s.ev p.2))) fun x => K (s.app d ⟨x, []⟩) := by
  simp only [opP, opF]; cases evBuild P t (l.map fun p => (p.1, s.ev p.2)) <;> simp
@[simp] theorem opP_load (t : TypeId) (a : Operand) : opP P s ⟨d, .load t a, ty, pos, af, gd⟩ K = bindP (evLoad P t s.m (s.ev a)) fun x => K (s.app d ⟨x, []⟩) := by
  simp only [opP, opF]; cases evLoad P t s.m (s.ev a) <;> simp
@[simp] theorem opP_nilCheck (x : Operand) : opP P s ⟨d, .nilCheck x, ty, pos, af, gd⟩ K = bindP (evNilCheck (s.ev x)) fun x => K (s.app d ⟨x, []⟩) := by
  simp only [opP, opF]; cases evNilCheck (s.ev x) <;> simp
@[simp] theorem opP_binOp_tmp (op : BinOp) (t t' : TypeId) (x : Operand) (j : Nat) : opP P s ⟨d, .binOp op t x (.tmp j) t', ty, pos, af, gd⟩ K = bindP (evBin P s.m op t (s.ev x) (s.ev (.tmp j))) fun x => K (s.app d ⟨x, []⟩) := by
  have e : opP P s ⟨d, .binOp op t x (.tmp j) t', ty, pos, af, gd⟩ K = bindP (obind (evBin P s.m op t (s.ev x) (s.ev (.tmp j))) fun x => some ⟨x, []⟩) fun E => K (s.app d E) := by cases op <;> rfl
  rw [e]; cases evBin P s.m op t (s.ev x) (s.ev (.tmp j)) <;> simp
@[simp] theorem opP_binOp_int (op : BinOp) (t t' : TypeId) (x : Operand) (k : IntKind) (n : Int) : opP P s ⟨d, .binOp op t x (.const (.int k n)) t', ty, pos, af, gd⟩ K = bindP (evBin P s.m op t (s.ev x) (s.ev (.const (.int k n)))) fun x => K (s.app d ⟨x, []⟩) := by
  have e : opP P s ⟨d, .binOp op t x (.const (.int k n)) t', ty, pos, af, gd⟩ K = bindP (obind (evBin P s.m op t (s.ev x) (s.ev (.const (.int k n)))) fun x => some ⟨x, []⟩) fun E => K (s.app d E) := by cases op <;> rfl
  rw [e]; cases evBin P s.m op t (s.ev x) (s.ev (.const (.int k n))) <;> simp
@[simp] theorem opP_binOp_bool (op : BinOp) (t t' : TypeId) (x : Operand) (b : Bool) : opP P s ⟨d, .binOp op t x (.const (.bool b)) t', ty, pos, af, gd⟩ K = bindP (evBin P s.m op t (s.ev x) (s.ev (.const (.bool b)))) fun x => K (s.app d ⟨x, []⟩) := by
  have e : opP P s ⟨d, .binOp op t x (.const (.bool b)) t', ty, pos, af, gd⟩ K = bindP (obind (evBin P s.m op t (s.ev x) (s.ev (.const (.bool b)))) fun x => some ⟨x, []⟩) fun E => K (s.app d E) := by cases op <;> rfl
  rw [e]; cases evBin P s.m op t (s.ev x) (s.ev (.const (.bool b))) <;> simp
@[simp] theorem opP_binOp_str (op : BinOp) (t t' : TypeId) (x : Operand) (b : ByteArray) : opP P s ⟨d, .binOp op t x (.const (.string b)) t', ty, pos, af, gd⟩ K = bindP (evBin P s.m op t (s.ev x) (s.ev (.const (.string b)))) fun x => K (s.app d ⟨x, []⟩) := by
  have e : opP P s ⟨d, .binOp op t x (.const (.string b)) t', ty, pos, af, gd⟩ K = bindP (obind (evBin P s.m op t (s.ev x) (s.ev (.const (.string b)))) fun x => some ⟨x, []⟩) fun E => K (s.app d E) := by cases op <;> rfl
  rw [e]; cases evBin P s.m op t (s.ev x) (s.ev (.const (.string b))) <;> simp
@[simp] theorem opP_binOp_agg (op : BinOp) (t t' : TypeId) (x : Operand) (b : Array Value) : opP P s ⟨d, .binOp op t x (.const (.agg b)) t', ty, pos, af, gd⟩ K = bindP (evBin P s.m op t (s.ev x) (s.ev (.const (.agg b)))) fun x => K (s.app d ⟨x, []⟩) := by
  have e : opP P s ⟨d, .binOp op t x (.const (.agg b)) t', ty, pos, af, gd⟩ K = bindP (obind (evBin P s.m op t (s.ev x) (s.ev (.const (.agg b)))) fun x => some ⟨x, []⟩) fun E => K (s.app d E) := by cases op <;> rfl
  rw [e]; cases evBin P s.m op t (s.ev x) (s.ev (.const (.agg b))) <;> simp
@[simp] theorem opP_eqNil (t t' : TypeId) (x : Operand) : opP P s ⟨d, .binOp .eql t x (.const (.slice none 0 0)) t', ty, pos, af, gd⟩ K = nilP P t (s.ev x) fun b => K (s.app d ⟨.v (.bool b), []⟩) := nrfl
@[simp] theorem opP_neNil (t t' : TypeId) (x : Operand) : opP P s ⟨d, .binOp .neq t x (.const (.slice none 0 0)) t', ty, pos, af, gd⟩ K = nilP P t (s.ev x) fun b => K (s.app d ⟨.v (.bool !b), []⟩) := nrfl
@[simp] theorem nilP_sl (t : TypeId) (xs : List V) (k : Bool → Prop) : nilP P t (.v (.sl xs)) k = ((elT P t).isSome = true ∧ ∀ b : Bool, (b = true → xs = []) → k b) := nrfl
@[simp] theorem nilP_nil (t : TypeId) (k : Bool → Prop) : nilP P t .nil k = ((elT P t).isSome = true ∧ k true) := nrfl
@[simp] theorem opP_neg (t : TypeId) (x : Operand) : opP P s ⟨d, .unOp .neg t x, ty, pos, af, gd⟩ K = bindP (evNeg (s.ev x)) fun x => K (s.app d ⟨x, []⟩) := by
  simp only [opP, opF]; cases evNeg (s.ev x) <;> simp
@[simp] theorem opP_convert (t t' : TypeId) (x : Operand) : opP P s ⟨d, .convert t t' x, ty, pos, af, gd⟩ K = bindP (evConvert P t t' s.m (s.ev x)) fun x => K (s.app d ⟨x, []⟩) := by
  simp only [opP, opF]; cases evConvert P t t' s.m (s.ev x) <;> simp
@[simp] theorem opP_slice (t : TypeId) (x : Operand) (lo hi : Option Operand) : opP P s ⟨d, .slice t x lo hi none, ty, pos, af, gd⟩ K = bindP (evSlice P t s.m (lo.map s.ev) (hi.map s.ev) (s.ev x)) fun x => K (s.app d ⟨x, []⟩) := by
  simp only [opP, opF]; cases evSlice P t s.m (lo.map s.ev) (hi.map s.ev) (s.ev x) <;> simp
@[simp] theorem opP_fieldAddr (t : TypeId) (x : Operand) (f : Nat) : opP P s ⟨d, .fieldAddr t x f, ty, pos, af, gd⟩ K = bindP (evFieldAddr P t f (s.ev x)) fun x => K (s.app d ⟨x, []⟩) := by
  simp only [opP, opF]; cases evFieldAddr P t f (s.ev x) <;> simp
@[simp] theorem opP_indexAddr (t : TypeId) (x i : Operand) : opP P s ⟨d, .indexAddr t x i, ty, pos, af, gd⟩ K = bindP (evIndexAddr P t s.m (s.ev x) (s.ev i)) fun x => K (s.app d ⟨x, []⟩) := by
  simp only [opP, opF]; cases evIndexAddr P t s.m (s.ev x) (s.ev i) <;> simp
@[simp] theorem opP_index (t : TypeId) (x i : Operand) : opP P s ⟨d, .index t x i, ty, pos, af, gd⟩ K = bindP (evIndex P t (s.ev i) (s.ev x)) fun x => K (s.app d ⟨x, []⟩) := by
  simp only [opP, opF]; cases evIndex P t (s.ev i) (s.ev x) <;> simp
@[simp] theorem opP_extract (x : Operand) (i : Nat) : opP P s ⟨d, .extract x i, ty, pos, af, gd⟩ K = bindP (evExtract i (s.ev x)) fun x => K (s.app d ⟨x, []⟩) := by
  simp only [opP, opF]; cases evExtract i (s.ev x) <;> simp
end

/-! evaluation -/
@[simp] theorem cells_agg (cs : List T) : (T.agg cs).cells = cs := rfl
@[simp] theorem cells_vagg (cs : List V) : (T.v (.agg cs)).cells = cs.map .v := rfl
@[simp] theorem vcells_int (k : IntKind) (n : Int) : (V.int k n).cells = [.int k n] := rfl
@[simp] theorem cells_vint (k : IntKind) (n : Int) : (T.v (.int k n)).cells = [.v (.int k n)] := rfl
@[simp] theorem vcells_bool (b : Bool) : (V.bool b).cells = [.bool b] := rfl
@[simp] theorem cells_vbool (b : Bool) : (T.v (.bool b)).cells = [.v (.bool b)] := rfl
@[simp] theorem vcells_str (b : List UInt8) : (V.str b).cells = [.str b] := rfl
@[simp] theorem cells_vstr (b : List UInt8) : (T.v (.str b)).cells = [.v (.str b)] := rfl
@[simp] theorem vcells_sl (b : List V) : (V.sl b).cells = [.sl b] := rfl
@[simp] theorem cells_vsl (b : List V) : (T.v (.sl b)).cells = [.v (.sl b)] := rfl
@[simp] theorem vcells_ref (b : List V) : (V.ref b).cells = [.ref b] := rfl
@[simp] theorem cells_vref (b : List V) : (T.v (.ref b)).cells = [.v (.ref b)] := rfl
@[simp] theorem vcells_fn (f : Nat) (b : List V) : (V.fn f b).cells = [.fn f b] := rfl
@[simp] theorem cells_vfn (f : Nat) (b : List V) : (T.v (.fn f b)).cells = [.v (.fn f b)] := rfl
@[simp] theorem vcells_agg (cs : List V) : (V.agg cs).cells = cs := rfl
@[simp] theorem cells_loc (i : Nat) : (T.loc i).cells = [.loc i] := rfl
@[simp] theorem cells_nil  : (T.nil).cells = [.nil] := rfl
@[simp] theorem cells_sv (i j k : Nat) : (T.sv i j k).cells = [.sv i j k] := rfl
@[simp] theorem cells_ptr (i j : Nat) : (T.ptr i j).cells = [.ptr i j] := rfl
@[simp] theorem cells_fptr (c : List V) (i : Nat) : (T.fptr c i).cells = [.fptr c i] := rfl
@[simp] theorem cells_fn (f : Nat) (c : List T) : (T.fn f c).cells = [.fn f c] := rfl
@[simp] theorem vcell_bool (b : Bool) : (V.bool b).cell = true := rfl
@[simp] theorem vcell_int (k : IntKind) (n : Int) : (V.int k n).cell = true := rfl
@[simp] theorem vcell_str (b : List UInt8) : (V.str b).cell = true := rfl
@[simp] theorem vcell_sl (b : List V) : (V.sl b).cell = true := rfl
@[simp] theorem vcell_ref (b : List V) : (V.ref b).cell = true := rfl
@[simp] theorem vcell_fn (f : Nat) (b : List V) : (V.fn f b).cell = true := rfl
@[simp] theorem vcell_agg (b : List V) : (V.agg b).cell = false := rfl
@[simp] theorem vcell_tup (b : List V) : (V.tup b).cell = false := rfl
@[simp] theorem vcell_any : V.any.cell = false := rfl
@[simp] theorem tcell_v (x : V) : (T.v x).cell = x.cell := rfl
@[simp] theorem tcell_nil : T.nil.cell = true := rfl
@[simp] theorem tcell_loc (i : Nat) : (T.loc i).cell = true := rfl
@[simp] theorem tcell_sv (i j k : Nat) : (T.sv i j k).cell = true := rfl
@[simp] theorem tcell_ptr (i j : Nat) : (T.ptr i j).cell = true := rfl
@[simp] theorem tcell_fptr (c : List V) (i : Nat) : (T.fptr c i).cell = true := rfl
@[simp] theorem tcell_fn (f : Nat) (c : List T) : (T.fn f c).cell = true := rfl
@[simp] theorem tcell_agg (c : List T) : (T.agg c).cell = false := rfl
@[simp] theorem tcell_tup (c : List T) : (T.tup c).cell = false := rfl
@[simp] theorem allC_nil : allC [] ↔ True := by simp [allC]
@[simp] theorem allC_cons (x : T) (xs : List T) : allC (x :: xs) ↔ x.cell = true ∧ allC xs := by simp [allC]
@[simp] theorem allC_append (a b : List T) : allC (a ++ b) ↔ allC a ∧ allC b := by simp [allC, or_imp, forall_and]
@[simp] theorem allC_map {α : Type} (f : α → T) (l : List α) : allC (l.map f) ↔ ∀ a ∈ l, (f a).cell = true := by simp [allC]
@[simp] theorem allZ_nil (k : Nat) : allZ k [] ↔ True := by simp [allZ]
@[simp] theorem allZ_cons (k : Nat) (x : V) (xs : List V) : allZ k (x :: xs) ↔ (x.cells.length = k ∧ ∀ c ∈ x.cells, c.cell = true) ∧ allZ k xs := by simp [allZ]
@[simp] theorem allZ_append (k : Nat) (a b : List V) : allZ k (a ++ b) ↔ allZ k a ∧ allZ k b := ⟨fun h => ⟨fun x hx => h x (List.mem_append_left _ hx), fun x hx => h x (List.mem_append_right _ hx)⟩, fun h x hx => (List.mem_append.1 hx).elim (h.1 x) (h.2 x)⟩
@[simp] theorem allZ_map {α : Type} (k : Nat) (f : α → V) (l : List α) : allZ k (l.map f) ↔ ∀ a ∈ l, (f a).cells.length = k ∧ ∀ c ∈ (f a).cells, c.cell = true := by simp [allZ]
theorem allC_take {l : List T} (h : allC l) (n : Nat) : allC (l.take n) := fun x hx => h x (List.mem_of_mem_take hx)
theorem allC_drop {l : List T} (h : allC l) (n : Nat) : allC (l.drop n) := fun x hx => h x (List.mem_of_mem_drop hx)
attribute [simp] V.flat flatL mapO evNilCheck evFieldAddr evIndex evExtract evNeg evBuild evAlloc evBox evBuildSlice evLoad cutV cutT evStore fpAt evIndexAddr evSlice bnd slRange placeC inOrder newRow appMut appArr appNil appNilMut evAppend evMake toBytes evConvert evLen evBuiltin structEq evBin elems slLen ecells setAt bin intBin cellsEq evPick
@[simp] theorem bor_v (k : Bool) (m : Mem) (d : Nat) (x : V) : bor k m d (.v x) = some x := by cases d <;> rfl
@[simp] theorem bor_nil (k : Bool) (m : Mem) (d : Nat) : bor k m d .nil = some (.sl []) := by cases d <;> rfl
@[simp] theorem bor_loc (k : Bool) (m : Mem) (d : Nat) (id : Nat) : bor k m d (.loc id) = match m id with
    | some (.arr _ xs) => some (.sl xs)
    | some (.ro xs) => some (.sl xs)
    | _ => none := by
  cases d <;> (unfold bor; split <;> simp_all)
@[simp] theorem bor_agg (k : Bool) (m : Mem) (d : Nat) (cs : List T) : bor k m (d + 1) (.agg cs) = obind (mapO (bor k m d) cs) fun xs => tst (∀ x ∈ xs, x.cell = true) (some (.agg xs)) := by simp [bor]
@[simp] theorem bor_tup (k : Bool) (m : Mem) (d : Nat) (cs : List T) : bor k m (d + 1) (.tup cs) = (mapO (bor k m d) cs).map .tup := by simp [bor]
@[simp] theorem bor_fn (k : Bool) (m : Mem) (d : Nat) (f : Nat) (cs : List T) : bor k m (d + 1) (.fn f cs) = (mapO (bor k m d) cs).map (.fn f) := by simp [bor]
@[simp] theorem bor_fptr (k : Bool) (m : Mem) (d : Nat) (cs : List V) : bor k m d (.fptr cs 0) = some (.ref cs) := by cases d <;> rfl

end TL
