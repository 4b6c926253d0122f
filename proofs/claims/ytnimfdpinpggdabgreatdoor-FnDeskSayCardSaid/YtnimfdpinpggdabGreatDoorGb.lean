/- TL: parts TlOps5, TlOps6, TlOps7, TlOps8, TlOpsM, TlOps9, TlTwp, TlWp, TlMono. -/
import Derived.Test.YtnimfdpinpggdabGreatDoorGa
import Derived.Great.BuildSlice
import Derived.Laws.MakeOwn
import Derived.MapKept
import Derived.Orders
import Derived.Laws.Cover3
set_option linter.unusedVariables false
set_option linter.unusedSimpArgs false
namespace TL
open Go Go.RowKit

section
variable {P:Program} {φ:Phi} {Z:Zs} {m:Mem} {n:Nat} {w:World}

theorem RelM.succ (hm:RelM P φ Z m n w):RelM P φ Z m (n+1) w:=⟨hm.ok,fun i hi=>hm.fresh i (by omega),hm.blk,hm.ne,hm.zlt⟩

theorem constCell_rep (v:Value):RepT φ Z w (constCell v) v:=by
 unfold constCell
 split
 ·exact rep_bool _
 ·exact rep_int _ _
 ·exact .v (.str rfl)
 ·exact .nil
 ·exact .nf
 ·exact .v (.any _)
theorem constCells_rep:∀ vs:List Value,RepTs φ Z w (vs.map constCell) vs
 | []=>.nil
 | v :: vs=>.cons (constCell_rep v) (constCells_rep vs)
theorem const_rep (v:Value):RepT φ Z w (const v) v:=by
 unfold const
 split
 ·exact .agg (constCells_rep _)
 ·exact constCell_rep v

theorem zeroC_spec {t:Nat} {zs:List T} (h:zeroC P t=some zs):∃ i z,P.info? t=some i∧i.zero=some z∧zs=(const z).cells:=by
 unfold zeroC at h
 cases hi:P.info? t with
 | none=>simp [hi] at h
 | some i =>
  simp only [hi,Option.bind_some,Option.map_eq_some_iff] at h
  obtain ⟨z,hz,rfl⟩:=h
  exact ⟨i,z,rfl,hz,rfl⟩
theorem info_zero_sz {t k:Nat} {zs:List T} (h:zeroC P t=some zs) (hk:sz P t=some k):∃ i z,P.info? t=some i∧i.zero=some z∧i.size=k∧zs=(const z).cells:=by
 obtain ⟨i,z,h1,h2,h3⟩:=zeroC_spec h
 obtain ⟨j,h4,h5⟩:=info_of_sz hk
 rw [h1] at h4; cases h4
 exact ⟨i,z,h1,h2,h5,h3⟩

theorem Done.box (hm:RelM P φ Z m n w) {e:TypeId} {z:Nat} {cs:List T} {us:Array Value} {r:Result Next} (hr:r=.ok (.value (.pointer (some ⟨w.heap.size,0,none⟩))) (w.alloc (.cells us e)))
  (hz:0<z) (hsz:sz P e=some z) (hc:allC cs) (h:RepTs φ Z w cs us.toList):Done P φ Z m (n+1) w r ⟨.ptr n 0,[(n,some (.box e z cs))]⟩:=by
 have hl:cs.length=us.size:=by rw [h.length]; simp
 obtain ⟨h1,h2⟩:=hm.succ.allocMut (id:=n) (by omega) (hm.fresh n (Nat.le_refl _)) (e:=e) (z:=z) (cs:=cs) (cur:=us) (v:=.pointer (some ⟨w.heap.size,0,none⟩)) hz hsz (by omega)
  (by rw [List.take_of_length_le (by simp; omega)]; exact h) hc (.inl rfl)
 exact ⟨_,_,_,_,.inl hr,h1,.ptr (updP_same _ _ _),h2⟩
theorem evAlloc_sound (hm:RelM P φ Z m n w) {t:Nat} {E:Eff} (hx:evAlloc P t n=some E):Done P φ Z m (n+1) w ((do pure (.value (← Instr.alloc t true (.tuple #[]))):Sem Next).run P w) E:=by
 unfold evAlloc at hx
 obtain ⟨zs,hzs,hx⟩:=obind_eq hx
 obtain ⟨k,hk,hx⟩:=obind_eq hx
 obtain ⟨⟨h1,h2,h3⟩,hx⟩:=tst_eq hx
 cases hx
 obtain ⟨i,z,g1,g2,g3,rfl⟩:=info_zero_sz hzs hk
 refine Done.box hm (us:=z.cells) ?_ h3 hk h2 ((const_rep z).toCells hm.ok h2)
 simp [Instr.alloc,zeroValue,typeInfo,g1,g2,newVar,Go.newRow]
theorem evBox_sound (hm:RelM P φ Z m n w) {t:Nat} {x:T} {u:Value} {E:Eff} (h:RepT φ Z w x u) (hx:evBox P t n x=some E):Done P φ Z m (n+1) w ((do pure (.value (← Instr.box t u)):Sem Next).run P w) E:=by
 unfold evBox at hx
 obtain ⟨k,hk,hx⟩:=obind_eq hx
 obtain ⟨⟨h1,h2,h3⟩,hx⟩:=tst_eq hx
 cases hx
 refine Done.box hm (us:=u.cells) ?_ h3 hk h2 (h.toCells hm.ok h2)
 simp [Instr.box,newVar,Go.newRow]

/-! structs -/
inductive RepPs (φ:Phi) (Z:Zs) (w:World):List (Nat × T)→List (Nat × Value)→Prop
 | nil:RepPs φ Z w [] []
 | cons {i:Nat} {x:T} {u:Value} {xs:List (Nat × T)} {us:List (Nat × Value)} (h:RepT φ Z w x u) (t:RepPs φ Z w xs us):RepPs φ Z w ((i,x) :: xs) ((i,u) :: us)
theorem RepPs.of {ρ:Operand→T} {ev:Operand→Value} (h:∀ o,RepT φ Z w (ρ o) (ev o)):∀ l:List (Nat × Operand),RepPs φ Z w (l.map fun p=>(p.1,ρ p.2)) (l.map fun p=>(p.1,ev p.2))
 | []=>.nil
 | p :: l=>.cons (h _) (RepPs.of h l)

theorem fill_step (cells us:Array Value) (off:Nat) (h:off+us.size≤cells.size) :
  (us.zipIdx.foldl (fun cs (c,j)=>cs.setIfInBounds (off+j) c) cells).toList=cells.toList.take off++us.toList++cells.toList.drop (off+us.size):=by
 have e:us.zipIdx.foldl (fun cs (c,j)=>cs.setIfInBounds (off+j) c) cells=(us.toList.zipIdx 0).foldl (fun cs (x:Value × Nat)=>cs.setIfInBounds (off+x.2) x.1) cells:=by
  rw [← Array.foldl_toList,Array.toList_zipIdx]
 obtain ⟨h1,h2⟩:=Great.foldl_set off us.toList 0 cells
 rw [e]
 apply List.ext_getElem?
 intro k
 rw [Array.getElem?_toList,h2 k]
 simp only [Nat.add_zero,Array.length_toList]
 have lt:(cells.toList.take off).length=off:=by rw [List.length_take,Array.length_toList]; omega
 have ltu:(cells.toList.take off++us.toList).length=off+us.size:=by rw [List.length_append,lt,Array.length_toList]
 by_cases ha:k<off
 ·rw [if_neg (by omega),List.append_assoc,List.getElem?_append_left (by rw [lt]; omega),List.getElem?_take,if_pos ha,Array.getElem?_toList]
 ·by_cases hb:k<off+us.size
  ·rw [if_pos ⟨by omega,hb,by omega⟩,List.getElem?_append_left (by rw [ltu]; exact hb),List.getElem?_append_right (by rw [lt]; omega),lt]
  ·rw [if_neg (by omega),List.getElem?_append_right (by rw [ltu]; omega),ltu,List.getElem?_drop,Array.getElem?_toList]
   congr 1; omega
theorem RepTs.setAt {cs xs:List T} {us vs:List Value} (h:RepTs φ Z w cs us) (g:RepTs φ Z w xs vs) {off:Nat} (hl:off+xs.length≤cs.length):RepTs φ Z w (setAt cs off xs) (us.take off++vs++us.drop (off+vs.length)):=by
 rw [setAt_spec _ _ _ hl,g.length]
 exact ((h.take off).append g).append (h.drop _)

theorem places_get:∀ (fs:List Field) (places:List (Nat × Nat)),fs.mapM (fun f=>(P.info? f.type).map fun i=>(f.offset,i.size))=some places→∀ (i:Nat) (f:Field),fs[i]? = some f→∀ k,sz P f.type=some k→places[i]? = some (f.offset,k)
 | [],places,h,i,f,hf,k,hk=>by simp at hf
 | g :: fs,places,h,i,f,hf,k,hk=>by
  simp only [List.mapM_cons,Option.bind_eq_bind,Option.pure_def,Option.bind_eq_some_iff,Option.map_eq_some_iff] at h
  obtain ⟨a,⟨q,hq,rfl⟩,rest,hrest,h⟩:=h
  cases h
  cases i with
  | zero =>
   simp only [List.getElem?_cons_zero,Option.some.injEq] at hf ⊢
   subst hf
   obtain ⟨j,h4,h5⟩:=info_of_sz hk
   rw [hq] at h4; cases h4; rw [h5]
  | succ i =>
   simp only [List.getElem?_cons_succ] at hf ⊢
   exact places_get fs rest hrest i f hf k hk
theorem places_some:∀ (fs:List Field),(fs.all fun f=>(P.info? f.type).isSome)=true→∃ places,fs.mapM (fun f=>(P.info? f.type).map fun i=>(f.offset,i.size))=some places
 | [],_=>⟨[],rfl⟩
 | f :: fs,h=>by
  simp only [List.all_cons,Bool.and_eq_true,Option.isSome_iff_exists] at h
  obtain ⟨⟨i,hi⟩,h⟩:=h
  obtain ⟨ps,hps⟩:=places_some fs h
  exact ⟨(f.offset,i.size) :: ps,by simp [List.mapM_cons,hi,hps]⟩

theorem placeC_sound (hφ:PhiOk φ) {t:Nat} {fs:Array Field} {places:List (Nat × Nat)} (hu:P.underlying t=some (.struct fs)) (hp:fs.toList.mapM (fun f=>(P.info? f.type).map fun i=>(f.offset,i.size))=some places) :
  ∀ (parts:List (Nat × T)) (vals:List (Nat × Value)) (cs:List T) (cells:Array Value) (cs':List T),RepPs φ Z w parts vals→RepTs φ Z w cs cells.toList→placeC P t parts cs=some cs' →
  ∃ r,Instr.fill (places.toArray[·]?) cells vals=some r∧RepTs φ Z w cs' r.toList:=by
 intro parts
 induction parts with
 | nil=>intro vals cs cells cs' h hr hx; cases h; cases hx; exact ⟨cells,rfl,hr⟩
 | cons p parts ih =>
  intro vals cs cells cs' h hr hx
  cases h with
  | @cons i x u _ us h tl =>
   simp only [placeC] at hx
   obtain ⟨o,ho,hx⟩:=obind_eq hx
   obtain ⟨k,hk,hx⟩:=obind_eq hx
   obtain ⟨⟨h1,h2,h3⟩,hx⟩:=tst_eq hx
   obtain ⟨fs',g,k',f1,f2,f3,f4,f5⟩:=fo_spec ho
   rw [hu] at f1; cases f1
   have hpl:places.toArray[i]? = some (o,k):=by
    have:fsz P t i=sz P g.type:=by simp only [fsz,hu,Option.bind_some,f2]
    rw [this] at hk
    have:=places_get _ _ hp i g (by simpa using f2) k hk
    rw [List.getElem?_toArray,this,f3]
   have hcells:=h.toCells hφ h2
   have hsz:u.cells.size=k:=by have:=hcells.length; rw [h1] at this; simpa using this.symm
   have hcl:cs.length=cells.size:=by rw [hr.length]; simp
   have hst:=fill_step cells u.cells o (by omega)
   obtain ⟨r,hr1,hr2⟩:=ih us _ (u.cells.zipIdx.foldl (fun cs (c,j)=>cs.setIfInBounds (o+j) c) cells) cs' tl (by rw [hst]; have:=hr.setAt hcells (off:=o) (by omega); simpa using this) hx
   refine ⟨r, ?_,hr2⟩
   simp only [Instr.fill,hpl]
   rw [if_neg (by simp [hsz]; omega)]
   exact hr1
theorem evBuild_sound (hm:RelM P φ Z m n w) {t:Nat} {parts:List (Nat × T)} {vals:List (Nat × Value)} {x:T} (h:RepPs φ Z w parts vals) (hx:evBuild P t parts=some x) :
  ∃ v,(Instr.build t vals.toArray).run P w=.ok v w∧RepT φ Z w x v:=by
 unfold evBuild at hx
 obtain ⟨zs,hzs,hx⟩:=obind_eq hx
 obtain ⟨k,hk,hx⟩:=obind_eq hx
 obtain ⟨⟨h1,h2,h3⟩,hx⟩:=tst_eq hx
 obtain ⟨cs,hcs,hx⟩:=obind_eq hx
 cases hx
 obtain ⟨i,z,g1,g2,g3,rfl⟩:=info_zero_sz hzs hk
 unfold fieldsOk at h2
 split at h2
 ·rename_i fs hu
  obtain ⟨places,hp⟩:=places_some fs.toList h2
  obtain ⟨r,hr,hr2⟩:=placeC_sound hm.ok hu hp parts vals _ z.cells cs h ((const_rep z).toCells hm.ok h3) hcs
  refine ⟨.agg r,run_build w t vals.toArray r ?_, ?_⟩
  ·unfold Program.built
   simp only [g1,hu,g2,hp,hr]
  ·exact RepT.agg (us:=r.toList) hr2
 ·cases h2
end
end TL

namespace TL
open Go Go.RowKit

section
variable {P:Program} {φ:Phi} {Z:Zs} {m:Mem} {n:Nat} {w:World}

theorem inOrder_spec:∀ (l:List (Nat × T)) (i:Nat) (vals:List (Nat × Value)) (xs:List T),RepPs φ Z w l vals→inOrder i l=some xs→∃ us:List Value,RepTs φ Z w xs us∧vals=(us.zipIdx i).map fun x=>(x.2,x.1)
 | [],i,vals,xs,h,hx=>by cases h; cases hx; exact ⟨[],.nil,rfl⟩
 | (j,x) :: l,i,vals,xs,h,hx=>by
  cases h with
  | cons h t =>
   simp only [inOrder] at hx
   obtain ⟨rfl,hx⟩:=tst_eq hx
   simp only [Option.map_eq_some_iff] at hx
   obtain ⟨ys,hys,rfl⟩:=hx
   obtain ⟨us,h1,rfl⟩:=inOrder_spec l _ _ _ t hys
   exact ⟨_ :: us,.cons h h1,by simp [List.zipIdx_cons]⟩

theorem flat_length {k:Nat} : ∀ (vs:List Value),(∀ v ∈ vs,v.cells.size=k)→(vs.flatMap fun v=>v.cells.toList).length=vs.length * k
 | [],_=>by simp
 | v :: vs,h=>by
  rw [List.flatMap_cons,List.length_append,flat_length vs fun u hu=>h u (by simp [hu])]
  simp only [Array.length_toList,h v (by simp),List.length_cons,Nat.add_mul,Nat.one_mul]; omega
/-- Parts of k cells each from the first place on. -/
theorem fill_rows {k:Nat} (hk:0<k):∀ (vs:List Value) (i:Nat) (cells:Array Value),(∀ v ∈ vs,v.cells.size=k)→cells.size=(i+vs.length) * k →
  Instr.fill (fun i=>some (i * k,k)) cells ((vs.zipIdx i).map fun x=>(x.2,x.1))=some (cells.toList.take (i * k)++vs.flatMap fun v=>v.cells.toList).toArray
 | [],i,cells,h,hs=>by
  simp only [List.zipIdx_nil,List.map_nil,Instr.fill,List.flatMap_nil,List.append_nil,List.length_nil,Nat.add_zero] at hs ⊢
  rw [List.take_of_length_le (by simp [hs])]
 | v :: vs,i,cells,h,hs=>by
  have hv:=h v (by simp)
  have e:(i+(v :: vs).length) * k=i * k+k+vs.length * k:=by simp only [List.length_cons,Nat.add_mul,Nat.one_mul]; omega
  rw [e] at hs
  have hst:=fill_step cells v.cells (i * k) (by omega)
  simp only [List.zipIdx_cons,List.map_cons,Instr.fill]
  rw [if_neg (by simp [hv]; omega)]
  have hsz:(v.cells.zipIdx.foldl (fun cs (c,j)=>cs.setIfInBounds (i * k+j) c) cells).size=(i+1+vs.length) * k:=by
   rw [← Array.length_toList,hst]
   simp only [List.length_append,List.length_take,List.length_drop,Array.length_toList,Nat.add_mul,Nat.one_mul]; omega
  rw [fill_rows hk vs (i+1) _ (fun u hu=>h u (by simp [hu])) hsz,hst]
  congr 2
  rw [List.flatMap_cons,← List.append_assoc]
  congr 1
  have hl:(cells.toList.take (i * k)++v.cells.toList).length=(i+1) * k:=by
   simp only [List.length_append,List.length_take,Array.length_toList,Nat.add_mul,Nat.one_mul]; omega
  rw [← hl,List.take_left]

theorem run_buildSlice0 (w:World) (t e:TypeId) (parts:Array (Nat × Value)) (ie:TypeInfo) (hu:P.underlying t=some (.slice e)) (hie:P.info? e=some ie) (hp:parts.toList=[]) :
  (Instr.buildSlice t 0 parts).run P w=.ok (.slice (some ⟨w.heap.size,0,none⟩) 0 0) (w.alloc (.cells #[] e)):=by
 simp [Instr.buildSlice,run_underlying hu,Go.sizeOf,typeInfo,hie,hp,Instr.fill,Go.newRow,Array.range_zero']

/-- One element's cells. -/
theorem RepV.elemCells {v:V} {u:Value} {k:Nat} (h:RepV Z w v u) (hl:v.cells.length=k) (hc:∀ c ∈ v.cells,c.cell=true) :
  u.cells.size=k∧∀ xs us,RepEs Z w k xs us→RepEs Z w k (v :: xs) (u.cells.toList++us):=by
 have one:v.cells=[v]→u.cells = #[u]→v.cell=true→u.cells.size=k∧∀ xs us,RepEs Z w k xs us→RepEs Z w k (v :: xs) (u.cells.toList++us):=by
  intro h1 h2 h3
  have hk:k=1:=by rw [← hl,h1]; rfl
  subst hk
  exact ⟨by rw [h2]; rfl,fun xs us hr=>by rw [h2]; exact .one h3 h hr⟩
 cases h with
 | any u=>exact absurd (hc .any (by simp [V.cells])) (by simp [V.cell])
 | tup h=>exact absurd (hc _ (List.mem_singleton.2 rfl)) (by simp [V.cell])
 | agg h =>
  simp only [V.cells] at hl
  refine ⟨by have:=h.length; simp [Value.cells]; omega,fun xs us hr => ?_⟩
  exact RepEs.agg h (by rw [← hl,h.length]; rfl) hr
 | bool b=>exact one rfl rfl rfl
 | int q i=>exact one rfl rfl rfl
 | str h=>exact one rfl rfl rfl
 | fn h=>exact one rfl rfl rfl
 | nil A c=>exact one rfl rfl rfl
 | sl h a b c d=>exact one rfl rfl rfl
 | ref h d=>exact one rfl rfl rfl
theorem RepVs.elemCells {k:Nat} : ∀ (vs:List V) (us:List Value),RepVs Z w vs us→allZ k vs→(∀ u ∈ us,u.cells.size=k)∧RepEs Z w k vs (us.flatMap fun u=>u.cells.toList)
 | [],us,h,ha=>by cases h; exact ⟨by simp,.nil k⟩
 | v :: vs,us,h,ha=>by
  cases h with
  | @cons _ u _ us h t =>
   obtain ⟨h1,h2⟩:=h.elemCells (ha v (by simp)).1 (ha v (by simp)).2
   obtain ⟨h3,h4⟩:=RepVs.elemCells vs us t fun x hx=>ha x (by simp [hx])
   exact ⟨by simpa using ⟨h1,h3⟩,by rw [List.flatMap_cons]; exact h2 _ _ h4⟩
theorem RepTs.elemCells (hφ:PhiOk φ) {k:Nat} : ∀ (xs:List T) (us:List Value),RepTs φ Z w xs us→(∀ x ∈ xs,x.cells.length=k∧allC x.cells) →
  (∀ u ∈ us,u.cells.size=k)∧RepTs φ Z w (xs.flatMap T.cells) (us.flatMap fun u=>u.cells.toList)∧allC (xs.flatMap T.cells)
 | [],us,h,ha=>by cases h; exact ⟨by simp,.nil,by intro x hx; simp at hx⟩
 | x :: xs,us,h,ha=>by
  cases h with
  | @cons _ u _ us h t =>
   obtain ⟨a1,a2⟩:=ha x (by simp)
   have h1:=h.toCells hφ a2
   obtain ⟨h2,h3,h4⟩:=RepTs.elemCells hφ xs us t fun y hy=>ha y (by simp [hy])
   refine ⟨?_,by rw [List.flatMap_cons,List.flatMap_cons]; exact h1.append h3, ?_⟩
   ·intro v hv
    rcases List.mem_cons.1 hv with rfl | hv
    ·have:=h1.length; rw [a1] at this; simpa using this.symm
    ·exact h2 v hv
   ·intro y hy
    rw [List.flatMap_cons,List.mem_append] at hy
    rcases hy with hy | hy
    ·exact a2 y hy
    ·exact h4 y hy

theorem Done.row (hm:RelM P φ Z m n w) {e:TypeId} {z l:Nat} {cs:List T} {us:Array Value} {r:Result Next} (hr:r=.ok (.value (.slice (some ⟨w.heap.size,0,none⟩) l l)) (w.alloc (.cells us e)))
  (hz:0<z) (hsz:sz P e=some z) (hc:allC cs) (hl:us.size=l * z) (hlm:l≤maxLen) (h:RepTs φ Z w cs us.toList):Done P φ Z m (n+1) w r ⟨.sv n 0 l,[(n,some (.box e z cs))]⟩:=by
 have hcs:cs.length=us.size:=by rw [h.length]; simp
 obtain ⟨h1,h2⟩:=hm.succ.allocMut (id:=n) (by omega) (hm.fresh n (Nat.le_refl _)) (e:=e) (z:=z) (cs:=cs) (cur:=us) (v:=.slice (some ⟨w.heap.size,0,none⟩) l l) hz hsz (by omega)
  (by rw [List.take_of_length_le (by simp; omega)]; exact h) hc (.inr ⟨_,_,rfl,hl,hlm⟩)
 exact ⟨_,_,_,_,.inl hr,h1,.sv (updP_same _ _ _) (Nat.le_refl _) hlm (fun _=>rfl) (fun _=>⟨rfl,Nat.le_refl _⟩),h2⟩
theorem small_maxLen {l k:Nat} (hk:0<k) (h:l * k≤16777216):l≤maxLen:=by
 have:l * 1≤l * k:=Nat.mul_le_mul_left l hk
 simp only [maxLen]; omega

theorem evBuildSlice_sound (hm:RelM P φ Z m n w) {t len:Nat} {parts:List (Nat × T)} {vals:List (Nat × Value)} {mu:Bool} {E:Eff} (h:RepPs φ Z w parts vals) (hx:evBuildSlice P mu t m n len parts=some E) :
  Done P φ Z m (n+1) w ((do pure (.value (← Instr.buildSlice t len vals.toArray)):Sem Next).run P w) E:=by
 unfold evBuildSlice at hx
 obtain ⟨e,he,hx⟩:=obind_eq hx
 obtain ⟨xs,hxs,hx⟩:=obind_eq hx
 obtain ⟨hxl,hx1⟩:=tst_eq hx
 subst hxl
 unfold newRow at hx1
 replace hx:=hx1
 obtain ⟨k,hk,hx⟩:=obind_eq hx
 obtain ⟨⟨h1,h2,h3⟩,hx⟩:=tst_eq hx
 obtain ⟨zs,hzs⟩:=Option.isSome_iff_exists.1 h1
 obtain ⟨i,z,g1,g2,g3,rfl⟩:=info_zero_sz hzs hk
 obtain ⟨us,hus,rfl⟩:=inOrder_spec _ _ _ _ h hxs
 have hlen:xs.length=us.length:=hus.length
 have run:(∀ u ∈ us,u.cells.size=k)→((do pure (.value (← Instr.buildSlice t xs.length ((us.zipIdx 0).map fun x=>(x.2,x.1)).toArray)):Sem Next).run P w) =
   .ok (.value (.slice (some ⟨w.heap.size,0,none⟩) xs.length xs.length)) (w.alloc (.cells (us.flatMap fun u=>u.cells.toList).toArray e)):=by
  intro hu
  have hb:(Instr.buildSlice t xs.length ((us.zipIdx 0).map fun x=>(x.2,x.1)).toArray).run P w=.ok (.slice (some ⟨w.heap.size,0,none⟩) xs.length xs.length) (w.alloc (.cells (us.flatMap fun u=>u.cells.toList).toArray e)):=by
   cases us with
   | nil =>
    have:xs=[]:=by cases xs with | nil=>rfl | cons=>simp at hlen
    subst this
    exact run_buildSlice0 w t e _ i (und_of_elT he) g1 (by simp)
   | cons u us =>
    have hp:0<xs.length * k:=Nat.mul_pos (by rw [hlen]; simp) h2
    refine run_buildSlice w t e xs.length _ _ i z (und_of_elT he) g1 g2 (by rw [g3]; omega) (by rw [g3]; omega) ?_
    rw [g3]
    have:=fill_rows h2 (u :: us) 0 ((Array.range (xs.length * k)).map (z.cells[· % z.cells.size]!)) hu (by simp [hlen])
    simpa using this
  simp only [Sem.run_bind,hb,Result.andThen_ok,Sem.run_pure]
 split at hx
 ·obtain ⟨ha,hx⟩:=tst_eq hx
  cases hx
  obtain ⟨a1,a2,a3⟩:=RepTs.elemCells hm.ok xs us hus ha
  exact Done.row hm (run a1) h2 hk a3 (by simp only [List.size_toArray]; rw [flat_length us a1,hlen]) (small_maxLen h2 h3) a2
 ·obtain ⟨vs,hvs,hx⟩:=obind_eq hx
  obtain ⟨ha,hx⟩:=tst_eq hx
  cases hx
  have hr:=bors_sound hm (k:=false) (Zb:=Z) (fun _ _ h=>h) (by simp) xs us vs hus hvs
  obtain ⟨a1,a2⟩:=RepVs.elemCells vs us hr ha
  have hvl:vs.length=xs.length:=((mapO_spec hvs).1).symm
  have hfl:=flat_length us a1
  obtain ⟨q1,q2⟩:=hm.succ.allocArr (id:=n) (by omega) (hm.fresh n (Nat.le_refl _)) (e:=e) (z:=k) (xs:=vs) (us:=us.flatMap fun u=>u.cells.toList) (cur:=(us.flatMap fun u=>u.cells.toList).toArray) (c:=xs.length) h2 hk a2 (by omega)
   (small_maxLen h2 h3) (by rw [List.size_toArray,hfl,hlen]) (List.take_of_length_le (by show List.length _≤_; rw [hfl,hvl,hlen]; exact Nat.le_refl _))
  rw [hvl] at q1 q2
  exact ⟨_,_,_,_,.inl (run a1),q1,.loc (updP_same _ _ _),q2⟩

theorem replicate_cells (z:Array Value) (hz:0<z.size):∀ l:Nat,(madeCells z (l * z.size)).toList=(List.replicate l z.toList).flatten:=by
 intro l
 apply List.ext_getElem?
 intro i
 simp only [madeCells,Array.toList_map,Array.toList_range,List.getElem?_map]
 induction l generalizing i with
 | zero=>simp
 | succ l ih =>
  rw [List.replicate_succ',List.flatten_append,List.flatten_singleton]
  have hl:(List.replicate l z.toList).flatten.length=l * z.size:=by simp
  by_cases h:i<l * z.size
  ·rw [List.getElem?_append_left (by rw [hl]; exact h),← ih]
   rw [List.getElem?_range h,List.getElem?_range (by rw [Nat.add_mul]; omega)]
  ·rw [List.getElem?_append_right (by rw [hl]; omega),hl]
   by_cases h2:i<(l+1) * z.size
   ·rw [List.getElem?_range h2]
    have hlt:i-l * z.size<z.size:=by rw [Nat.add_mul] at h2; omega
    have hmod:i % z.size=i-l * z.size:=by
     have:i=(i-l * z.size)+z.size * l:=by rw [Nat.mul_comm z.size l]; omega
     rw [this,Nat.add_mul_mod_self_left,Nat.mod_eq_of_lt (by omega)]
     rw [Nat.mul_comm z.size l]; omega
    simp only [Option.map_some,hmod]
    rw [getElem!_pos z _ hlt,List.getElem?_eq_getElem (by simpa using hlt)]; simp
   ·rw [List.getElem?_eq_none (by simp; omega),List.getElem?_eq_none (by rw [Nat.add_mul] at h2; simp; omega)]; rfl
theorem RepTs.replicate {cs:List T} {us:List Value} (h:RepTs φ Z w cs us):∀ l,RepTs φ Z w (List.replicate l cs).flatten (List.replicate l us).flatten
 | 0=>.nil
 | l+1=>by rw [List.replicate_succ,List.replicate_succ,List.flatten_cons,List.flatten_cons]; exact h.append (h.replicate l)
theorem evMake_sound (hm:RelM P φ Z m n w) {t:Nat} {l c:T} {ul uc:Value} {E:Eff} (hl:RepT φ Z w l ul) (hc:RepT φ Z w c uc) (hx:evMake P t n l c=some E) :
  Done P φ Z m (n+1) w ((do pure (.value (← Instr.makeSlice t ul uc)):Sem Next).run P w) E:=by
 unfold evMake at hx
 split at hx
 ·obtain rfl:=int_rep hl; obtain rfl:=int_rep hc
  obtain ⟨e,he,hx⟩:=obind_eq hx
  obtain ⟨k,hk,hx⟩:=obind_eq hx
  obtain ⟨by_,hby,hx⟩:=obind_eq hx
  obtain ⟨zs,hzs,hx⟩:=obind_eq hx
  obtain ⟨⟨hlc,h0,hb,h63,hzl,hk0,hac⟩,hx1⟩:=tst_eq hx
  subst hlc
  cases hx1
  obtain ⟨i,z,g1,g2,g3,rfl⟩:=info_zero_sz hzs hk
  have hbi:i.bytes=by_:=by simpa [bytes,g1] using hby
  have hcells:=(const_rep (φ:=φ) (Z:=Z) (w:=w) z).toCells hm.ok hac
  have hzk:z.cells.size=k:=by have:=hcells.length; rw [hzl] at this; simpa using this.symm
  have hrun:=run_make (P:=P) w t e i z (und_of_elT he) g1 g2 .i64 .i64 _ _ h0 (Int.le_refl _) (by rw [hbi]; exact hb) h63
  rw [g3] at hrun
  refine Done.row hm (us:=madeCells z.cells (_ * k)) (by simp only [Sem.run_bind,hrun,Result.andThen_ok,Sem.run_pure]) hk0 hk ?_ (size_madeCells _ _) (by simp only [maxLen]; omega) ?_
  ·intro x hx
   obtain ⟨l,h1,h2⟩:=List.mem_flatten.1 hx
   obtain ⟨_,rfl⟩:=List.mem_replicate.1 h1
   exact hac x h2
  ·rw [← hzk,replicate_cells z.cells (by omega)]
   exact hcells.replicate _
 ·cases hx
end
end TL

namespace TL
open Go Go.RowKit

section
variable {P:Program} {φ φ':Phi} {Z Z':Zs} {m m':Mem} {n:Nat} {w:World}

theorem szz_spec {t k:Nat} (h:szz P t=some k):∃ i z,P.info? t=some i∧i.zero=some z∧z.cells.size=i.size∧i.size=k:=by
 unfold szz at h
 cases hi:P.info? t with
 | none=>simp [hi] at h
 | some i =>
  cases hz:i.zero with
  | none=>simp [hi,hz] at h
  | some z =>
   simp only [hi,hz,Option.bind_some] at h
   split at h
   ·rename_i h1; cases h; exact ⟨i,z,rfl,hz,h1,rfl⟩
   ·cases h
theorem RelM.quiet (hm:RelM P φ Z m n w) (he:Ext φ φ') (hok:PhiOk φ') (hfr:∀ i,n≤i→φ' i=none)
  (hm':∀ j b,m' j=some b→m j=some b∨∃ v,φ' j=some v∧RelB P φ' Z w v b∧(isRo b=true∨blkOf v=none)) :
  RelM P φ' Z m' n w∧Step φ Z m w φ' Z m' w:=by
 have old:∀ j b v k,m' j=some b→isRo b=false→φ' j=some v→blkOf v=some k→m j=some b∧φ j=some v:=by
  intro j b v k hj hr hv hk
  rcases hm' j b hj with h | ⟨v1,h1,_,h3⟩
  ·obtain ⟨u,hu,_⟩:=hm.blk j b h
   have:=he j u hu; rw [hv] at this; cases this
   exact ⟨h,hu⟩
  ·rw [hv] at h1; cases h1
   rcases h3 with h3 | h3
   ·rw [hr] at h3; cases h3
   ·rw [hk] at h3; cases h3
 refine ⟨⟨hok,hfr, ?_, ?_,hm.zlt⟩,⟨he,fun _ _ h=>h,fun _ _ _=>rfl,rfl,rfl,rfl,Nat.le_refl _,fun _ _ _=>rfl, ?_,fun _ _ h=>.inl h⟩⟩
 ·intro j b hj
  rcases hm' j b hj with h | ⟨v,h1,h2,_⟩
  ·obtain ⟨u,hu,hr⟩:=hm.blk j b h
   exact ⟨u,he j u hu,hr.keep he (fun _ _ h=>h) (fun _ _ _=>rfl) fun _ _ _=>⟨rfl,fun _ h=>h⟩⟩
  ·exact ⟨v,h1,h2⟩
 ·intro i j a b u v k h1 h2 h3 h4 h5 h6 h7 h8
  obtain ⟨g1,g2⟩:=old i a u k h1 h7 h3 h5
  obtain ⟨g3,g4⟩:=old j b v k h2 h8 h4 h6
  exact hm.ne i j a b u v k g1 g3 g2 g4 h5 h6 h7 h8
 ·rintro k hk ⟨j,b,v,h1,h2,h3,h4⟩
  obtain ⟨g1,g2⟩:=old j b v k h1 h2 h3 h4
  exact ⟨j,b,v,g1,h2,g2,h4⟩
theorem RelM.drew (hm:RelM P φ Z m n w):RelM P φ Z m n w.drew :=
 ⟨hm.ok,hm.fresh,fun i b h=>by
  obtain ⟨v,h1,h2⟩:=hm.blk i b h
  exact ⟨v,h1,h2.keep (fun _ _ h=>h) (fun _ _ h=>h) (fun _ _ _=>rfl) fun _ _ _=>⟨rfl,fun _ h=>h⟩⟩,hm.ne,⟨hm.zlt.lt,hm.zlt.gl.keep (fun _ _ h=>h) fun _ _ _=>rfl⟩⟩
theorem Step.drew (φ:Phi) (Z:Zs) (m:Mem) (w:World):Step φ Z m w φ Z m w.drew :=
 ⟨fun _ _ h=>h,fun _ _ h=>h,fun _ _ _=>rfl,rfl,rfl,rfl,Nat.le_refl _,fun _ _ _=>rfl,fun _ _ h=>h,fun _ _ h=>.inl h⟩

/-- What is appended. -/
theorem news_of {k:Nat} {ys:List V} {u:Value} (h:RepV Z w (.sl ys) u) (ha:allZ k ys) :
  ∃ A mm c news,u=.slice A mm c∧RepEs Z w k ys news∧mm=ys.length∧(0<mm→∃ a,A=some a∧∀ j u,news[j]? = some u→w.cell? (a.add j)=some u):=by
 cases h with
 | nil A c=>exact ⟨A,0,c,[],rfl,.nil k,rfl,fun h=>by omega⟩
 | @sl z xs us ad n c h hn hc hm hz =>
  by_cases he:ys=[]
  ·subst he
   cases h
   exact ⟨_,_,_,[],rfl,.nil k,hn.symm,fun h=>⟨_,rfl,fun j u hu=>by simp at hu⟩⟩
  ·have:=allZ_z h ha he
   subst this
   exact ⟨_,_,_,us,rfl,h,hn.symm,fun _=>⟨_,rfl,fun j u hu=>(hz j u hu).1⟩⟩
theorem le_maxLen_of {a b:Nat} (hb:0<b) (h:a * b≤140737488355328):a≤maxLen:=by
 have:a * 1≤a * b:=Nat.mul_le_mul_left a hb
 simp only [maxLen]; omega

/-- append to a row of pure elements. -/
theorem appArr_sound (hm:RelM P φ Z m n w) {i t ty e k by_:Nat} {e':TypeId} {xs ys:List V} {v y:Value} {E:Eff} (ht:elT P t=some e) (hk:szz P e=some k) (hb:bytes P e=some by_)
  (hi:m i=some (.arr e' xs)) (hv:φ i=some v) (hy:RepV Z w (.sl ys) y) (hx:appArr e k by_ i n e' xs ys=some E) :
  Done P φ Z m (n+1) w ((do pure (.value (← Builtin.append_ #[t,t] ty #[v,y])):Sem Next).run P w) E:=by
 unfold appArr at hx
 obtain ⟨⟨hee,hk0,hby,ha,hbound⟩,hx⟩:=tst_eq hx
 subst hee
 cases hx
 obtain ⟨inf,z,g1,g2,g3,g4⟩:=szz_spec hk
 have hbi:inf.bytes=by_:=by simpa [bytes,g1] using hb
 obtain ⟨v',hv',us,z',b1,b2,b3,b4,b5⟩:=hm.blk _ _ hi
 rw [hv] at hv'; cases hv'
 have hsz:sz P e'=some k:=by simp [sz,g1,g4]
 rw [hsz] at b1; cases b1
 obtain ⟨A,mm,c,news,rfl,n1,rfl,n3⟩:=news_of hy ha
 have hnl:news.length=ys.length * inf.size:=by rw [n1.length,g4]
 have hni:n ≠ i:=fun h=>by have:=hm.fresh n (Nat.le_refl _); rw [h,hv] at this; cases this
 obtain ⟨v1,w1,hrun,hown,halt⟩:=run_append_tl (P:=P) w t ty e' inf z (und_of_elT ht) g1 g2 g3 (by omega) v xs.length us (by rw [g4]; exact b3) A ys.length c news hnl n3 n1.ones (by rw [hbi]; exact hbound) (le_maxLen_of hby hbound)
 rw [g4] at hown
 have hr:((do pure (.value (← Builtin.append_ #[t,t] ty #[v,.slice A ys.length c])):Sem Next).run P w)=.ok (.value v1) w1:=by simp only [Sem.run_bind,hrun,Result.andThen_ok,Sem.run_pure]
 have happ:(xs++ys).length=xs.length+ys.length:=List.length_append
 have hφn:φ n=none:=hm.fresh n (Nat.le_refl _)
 have hread:RepV Z w (.sl xs) v:=RelB.reads (P:=P) (φ:=φ) (b:=.arr e' xs) ⟨us,k,hsz,b2,b3,b4,b5⟩ (.inl ⟨_,rfl⟩)
 have h1c:v1.oneCell'=true:=by
  rcases hown.2 with ⟨rfl,_⟩ | ⟨_,_,_,rfl,_⟩ <;> rfl
 have ext:Ext φ (updP φ n v1):=ext_updP v1 hφn
 have ok':PhiOk (updP φ n v1):=fun j u hu=>by
  by_cases hj:j=n
  ·subst hj; rw [updP_same] at hu; cases hu; exact h1c
  ·rw [updP_ne _ _ hj] at hu; exact hm.ok j u hu
 have fr':∀ j,n+1≤j→updP φ n v1 j=none:=fun j hj=>by rw [updP_ne _ _ (by omega)]; exact hm.fresh j (by omega)
 -- the block stays the row's own
 have stay:∀ (g:Nat) (Z':Zs),blkOf v=some g→blkOf v1=some g→SubZ Z Z'→(∀ k o,Z' k o→Z k o∨k=g)→(∀ o,Z' g o↔o<(xs.length+ys.length) * k)→KeepZ Z w w1→w1.os=w.os→w1.tape=w.tape→w1.output=w.output→w1.heap.size=w.heap.size→(∀ k,k ≠ g→w1.heap[k]? = w.heap[k]?) →
   Done P φ Z m (n+1) w ((do pure (.value (← Builtin.append_ #[t,t] ty #[v,.slice A ys.length c])):Sem Next).run P w) ⟨.loc n,[(i,some (.ro xs)),(n,some (.arr e' (xs++ys)))]⟩:=by
  intro g Z' hg hg1 hs hZ hiff hkeep hos htape hout hsize hheap
  have key:=hm.succ.change (i0:=i) (j0:=n) (g:=g) (m':=updM (updM m i (some (.ro xs))) n (some (.arr e' (xs++ys)))) hi rfl hv hg ext ok' fr' hs hZ hkeep hos htape hout hsize hheap (fun j b hj=>by
   by_cases hjn:j=n
   ·subst hjn
    rw [updM_same] at hj; cases hj
    refine .inr ⟨v1,updP_same _ _ _,⟨us++news,k,hsz,b2,by rw [happ]; exact hown,(b4.mono hs hkeep).append (n1.mono hs hkeep),fun q hq o => ?_⟩,.inr ⟨hg1,rfl⟩⟩
    rw [hg1] at hq; cases hq; rw [happ]; exact hiff o
   ·rw [updM_ne _ _ hjn] at hj
    by_cases hji:j=i
    ·subst hji
     rw [updM_same] at hj; cases hj
     exact .inr ⟨v,ext _ _ hv,hread.mono hs hkeep,.inl rfl⟩
    ·rw [updM_ne _ _ hji] at hj; exact .inl ⟨hj,hji⟩)
  exact ⟨v1,w1,_,Z',.inl hr,key.1,.loc (updP_same _ _ _),key.2⟩
 rcases halt with ⟨h0,rfl,rfl⟩ | ⟨g,cur,cap,cur',rfl,rfl,hg,rfl,hcs⟩ | ⟨cap,cur',rfl,rfl,hcap,hcm,hcs,htk⟩
 ·cases hg:blkOf v1 with
  | some g=>exact stay g Z hg hg (fun _ _ h=>h) (fun _ _ h=>.inl h) (fun o=>by rw [b5 g hg o,h0,Nat.add_zero]) (keep_refl _ _) rfl rfl rfl rfl fun _ _=>rfl
  | none =>
   have key:=hm.succ.quiet (m':=updM (updM m i (some (.ro xs))) n (some (.arr e' (xs++ys)))) ext ok' fr' (fun j b hj=>by
    by_cases hjn:j=n
    ·subst hjn
     rw [updM_same] at hj; cases hj
     exact .inr ⟨v1,updP_same _ _ _,⟨us++news,k,hsz,b2,by rw [happ]; exact hown,b4.append n1,fun q hq=>by rw [hg] at hq; cases hq⟩,.inr hg⟩
    ·rw [updM_ne _ _ hjn] at hj
     by_cases hji:j=i
     ·subst hji
      rw [updM_same] at hj; cases hj
      exact .inr ⟨v1,ext _ _ hv,hread,.inl rfl⟩
     ·rw [updM_ne _ _ hji] at hj; exact .inl hj)
   exact ⟨v1,_,_,Z,.inl hr,key.1,.loc (updP_same _ _ _),key.2⟩
 ·have hz0:∀ o,Z g o↔o<xs.length * k:=fun o=>b5 g rfl o
  refine stay g (fun k' o=>Z k' o∨(k'=g∧o<(xs.length+ys.length) * k)) rfl rfl (fun _ _ h=>.inl h) (fun _ _ h=>h.imp id (·.1)) (fun o => ?_) ?_ rfl rfl rfl (by simp) fun q hq=>setRow_other w g q cur' hq
  ·constructor
   ·rintro (h | h)
    ·have:=(hz0 o).1 h; rw [Nat.add_mul]; omega
    ·exact h.2
   ·exact fun h=>.inr ⟨rfl,h⟩
  ·intro q o hz
   by_cases hq:q=g
   ·subst hq
    have ho:=(hz0 o).1 hz
    have hul:us.length=xs.length * k:=b3.1
    obtain ⟨u,hu⟩:∃ u,us[o]? = some u:=⟨us[o]'(by omega),List.getElem?_eq_getElem (by omega)⟩
    have e1:=b3.cells (g:=q) rfl o u hu
    have e2:=hown.cells (g:=q) rfl o u (by rw [List.getElem?_append_left (by omega)]; exact hu)
    rw [add_lit,Nat.zero_add] at e1 e2
    rw [e1,e2]
   ·exact World.cell?_of_block (w:=w) (setRow_other w g q cur' hq)
 ·have key:=hm.succ.quiet (φ':=φ) (m':=updM m i (some (.ro xs))) (fun _ _ h=>h) hm.ok hm.succ.fresh (fun j b hj=>by
   by_cases hji:j=i
   ·subst hji
    rw [updM_same] at hj; cases hj
    exact .inr ⟨v,hv,hread,.inl rfl⟩
   ·rw [updM_ne _ _ hji] at hj; exact .inl hj)
  have hes:RepEs Z w.drew k (xs++ys) (us++news):=RepEs.mono (Z:=Z) (Z':=Z) (w:=w) (w':=w.drew) (fun _ _ h=>h) (fun _ _ _=>rfl) (b4.append n1)
  obtain ⟨q1,q2⟩:=key.1.drew.allocArr (id:=n) (by omega) hφn (e:=e') (z:=k) (cur:=cur') (c:=cap) b2 hsz hes (by rw [happ]; exact hcap) hcm (by rw [hcs,g4]) (by rw [happ,← g4]; exact htk)
  rw [happ] at q1 q2
  exact ⟨_,_,_,_,.inl hr,q1,.loc (updP_same _ _ _),(key.2.trans (Step.drew _ _ _ _)).trans q2⟩

/-- append to nothing. -/
theorem appNil_sound (hm : RelM P φ Z m n w) {t ty e k by_ : Nat} {ys : List V} {y : Value} {E : Eff} (ht : elT P t = some e) (hk : szz P e = some k) (hb : bytes P e = some by_)
    (hy : RepV Z w (.sl ys) y) (hx : appNil e k by_ n ys = some E) :
    Done P φ Z m (n + 1) w ((do pure (.value (← Builtin.append_ #[t,t] ty #[.slice none 0 0,y])) : Sem Next).run P w) E := by
  unfold appNil at hx
  obtain ⟨⟨hk0,hby,ha,hbound⟩,hx⟩ := tst_eq hx
  cases hx
  obtain ⟨inf,z,g1,g2,g3,g4⟩ := szz_spec hk
  have hbi : inf.bytes = by_ := by simpa [bytes,g1] using hb
  have hsz : sz P e = some k := by simp [sz,g1,g4]
  obtain ⟨A,mm,c,news,rfl,n1,rfl,n3⟩ := news_of hy ha
  have hnl : news.length = ys.length * inf.size := by rw [n1.length,g4]
  obtain ⟨v1,w1,hrun,hown,halt⟩ := run_append_tl (P := P) w t ty e inf z (und_of_elT ht) g1 g2 g3 (by omega) (.slice none 0 0) 0 [] (World.ownsRow_nil _ _ _ _) A ys.length c news hnl n3 n1.ones (by rw [hbi,Nat.zero_add]; exact hbound) (by rw [Nat.zero_add]; exact le_maxLen_of hby hbound)
  rw [g4] at hown
  have hr : ((do pure (.value (← Builtin.append_ #[t,t] ty #[.slice none 0 0,.slice A ys.length c])) : Sem Next).run P w) = .ok (.value v1) w1 := by simp only [Sem.run_bind,hrun,Result.andThen_ok,Sem.run_pure]
  have hφn : φ n = none := hm.fresh n (Nat.le_refl _)
  simp only [Nat.zero_add,List.nil_append] at halt hown
  rcases halt with ⟨h0,rfl,rfl⟩ | ⟨g,cur,cap,cur',h,_⟩ | ⟨cap,cur',rfl,rfl,hcap,hcm,hcs,htk⟩
  · have key := hm.succ.quiet (φ' := updP φ n (.slice none 0 0)) (m' := updM m n (some (.arr e ys))) (ext_updP _ hφn) (fun j u hu => by
        by_cases hj : j = n
        · subst hj; rw [updP_same] at hu; cases hu; rfl
        · rw [updP_ne _ _ hj] at hu; exact hm.ok j u hu) (fun j hj => by rw [updP_ne _ _ (by omega)]; exact hm.fresh j (by omega)) (fun j b hj => by
        by_cases hjn : j = n
        · subst hjn
          rw [updM_same] at hj; cases hj
          exact .inr ⟨_,updP_same _ _ _,⟨news,k,hsz,hk0,hown,n1,fun q hq => by cases hq⟩,.inr rfl⟩
        · rw [updM_ne _ _ hjn] at hj; exact .inl hj)
    exact ⟨_,_,_,Z,.inl hr,key.1,.loc (updP_same _ _ _),key.2⟩
  · cases h
  · have hes : RepEs Z w.drew k ys news := RepEs.mono (Z := Z) (Z' := Z) (w := w) (w' := w.drew) (fun _ _ h => h) (fun _ _ _ => rfl) n1
    obtain ⟨q1,q2⟩ := hm.succ.drew.allocArr (id := n) (by omega) hφn (e := e) (z := k) (cur := cur') (c := cap) hk0 hsz hes hcap hcm (by rw [hcs,g4]) (by rw [← g4]; exact htk)
    exact ⟨_,_,_,_,.inl hr,q1,.loc (updP_same _ _ _),(Step.drew _ _ _ _).trans q2⟩
end
end TL

namespace TL
open Go Go.RowKit

section
variable {P:Program} {φ φ':Phi} {Z Z':Zs} {m m':Mem} {n:Nat} {w:World}

theorem RepEs.toTs {z:Nat} {xs:List V} {us:List Value} (h:RepEs Z w z xs us):RepTs φ Z w (xs.flatMap fun x=>x.cells.map .v) us:=by
 induction xs generalizing us z with
 | nil=>cases h; exact .nil
 | cons x xs ih =>
  cases h with
  | agg h hl t=>rw [List.flatMap_cons]; exact h.toTs.append (ih t)
  | @one _ u us _ hc h t =>
   rw [List.flatMap_cons]
   have:x.cells=[x]:=by cases x <;> first | rfl | simp [V.cell] at hc
   rw [this]
   exact RepTs.append (a:=[.v x]) (us:=[u]) (.cons (.v h) .nil) (ih t)

/-- The cells that are appended. -/
theorem ecells_sound (hm:RelM P φ Z m n w) {k:Nat} {y:T} {u:Value} {nn:Nat} {ys:List T} (h:RepT φ Z w y u) (hk:0<k) (hx:ecells m k y=some (nn,ys)) :
  ∃ A c news,u=.slice A nn c∧RepTs φ Z w ys news∧news.length=nn * k∧(0<nn→∃ a,A=some a∧∀ j v,news[j]? = some v→w.cell? (a.add j)=some v):=by
 have general:(obind (elems m y) fun xs=>tst (allZ k xs) (some (xs.length,xs.flatMap fun x=>x.cells.map T.v)))=some (nn,ys) →
   ∃ A c news,u=.slice A nn c∧RepTs φ Z w ys news∧news.length=nn * k∧(0<nn→∃ a,A=some a∧∀ j v,news[j]? = some v→w.cell? (a.add j)=some v):=by
  intro hx
  obtain ⟨xs,hxs,hx⟩:=obind_eq hx
  obtain ⟨ha,hx⟩:=tst_eq hx
  cases hx
  obtain ⟨A,mm,c,news,rfl,n1,rfl,n3⟩:=news_of (elems_rep hm h hxs) ha
  exact ⟨A,c,news,rfl,n1.toTs,n1.length,n3⟩
 unfold ecells at hx
 split at hx
 ·rename_i id co len
  split at hx
  ·rename_i e z cs hi
   obtain ⟨⟨rfl,hle⟩,hx⟩:=tst_eq hx
   cases hx
   obtain ⟨v,hv,h1,h2,g,cur,h3,h4,h5,h6,h7,h8,h9⟩:=hm.blk _ _ hi
   cases h with
   | @sv _ _ _ g' n' c' c'' A hq hl hmx ha h0 =>
    rw [hv] at hq; cases hq
    cases h3
    have hlen:=h6.length
    refine ⟨A,c'',((cur.toList.take cs.length).drop co).take (nn * z),rfl,(h6.drop co).take _, ?_,fun hp=>⟨_,ha hp,fun j v hj => ?_⟩⟩
    ·rw [List.length_take,List.length_drop,← hlen]; omega
    ·rw [add_lit,cell_of_row w _ _ cur e (0,0) h4]
     rw [List.getElem?_take] at hj
     split at hj
     ·rw [List.getElem?_drop,List.getElem?_take] at hj
      split at hj
      ·simpa using hj
      ·cases hj
     ·cases hj
  ·cases hx
 ·exact general hx

theorem boxUpd {e:TypeId} {z:Nat} {cs:List T} {v:Value} {g:Nat} {cur:Array Value} (hz:0<z) (hsz:sz P e=some z) (hg:blkOf v=some g) (hh:w.heap[g]? = some (.cells cur e (0,0))) (hl:cs.length≤cur.size)
  (hr:RepTs φ Z w cs (cur.toList.take cs.length)) (hc:allC cs) (hnz:∀ o,¬Z g o) {n' c:Nat} (hv:v=.slice (some ⟨g,0,none⟩) n' c) (hcs:c * z≤cur.size) (hcm:c≤maxLen):RelB P φ Z w v (.box e z cs) :=
 ⟨hz,hsz,g,cur,hg,hh,hl,hr,hc,hnz,.inr ⟨n',c,hv,hcs,hcm⟩⟩

theorem appMut_sound (hm:RelM P φ Z m n w) {i co len t ty e k by_ nn z:Nat} {e':TypeId} {cs ys:List T} {v y:Value} {yt:T} {E:Eff} (ht:elT P t=some e) (hk:szz P e=some k) (hb:bytes P e=some by_)
  (hi:m i=some (.box e' z cs)) (h:RepT φ Z w (.sv i co len) v) (hy:RepT φ Z w yt y) (hys:ecells m k yt=some (nn,ys)) (hx:appMut e k by_ i n co len e' z cs nn ys=some E) :
  Done P φ Z m (n+1) w ((do pure (.value (← Builtin.append_ #[t,t] ty #[v,y])):Sem Next).run P w) E:=by
 unfold appMut at hx
 obtain ⟨⟨hee,hzk,hk0,hby,hco,hle,hbound,hac⟩,hx1⟩:=tst_eq hx
 clear hx
 subst hee hzk hco
 cases hx1
 obtain ⟨inf,zz,g1,g2,g3,g4⟩:=szz_spec hk
 have hbi:inf.bytes=by_:=by simpa [bytes,g1] using hb
 obtain ⟨v0,hv,h1,hsz,g,cur,h3,h4,h5,h6,h7,h8,h9⟩:=hm.blk _ _ hi
 obtain ⟨A,c,news,rfl,n1,n2,n3⟩:=ecells_sound hm hy hk0 hys
 cases h with
 | @sv _ _ _ g' n' c' c'' A' hq hl hmx ha h0 =>
  obtain ⟨rfl,hcc⟩:=h0 rfl
  rw [hv] at hq; cases hq
  cases h3
  obtain ⟨hcz,hcm⟩:c'' * z≤cur.size∧c''≤maxLen:=by
   have hmul:c'' * z≤c' * z:=Nat.mul_le_mul_right _ hcc
   rcases h9 with h9 | ⟨a,b,h9,h10,h11⟩
   ·cases h9
   ·cases h9; exact ⟨by omega,by omega⟩
  have hown:rowIn w e' z (.slice (some ⟨g',0,none⟩) len c'') len (cur.toList.take (len * z)) :=
   ⟨by rw [List.length_take,Array.length_toList]; omega,.inr ⟨g',c'',cur,rfl,h4,hl,hcm,hcz,rfl⟩⟩
  obtain ⟨v1,w1,hrun,hown1,halt⟩:=run_append_in (P:=P) w t ty e' inf zz (und_of_elT ht) g1 g2 g3 (by omega) (.slice (some ⟨g',0,none⟩) len c'') len (cur.toList.take (len * z)) (by rw [g4]; exact hown) A nn c news (by rw [g4]; exact n2) n3 (n1.ones hm.ok hac) (by rw [hbi]; exact hbound) (le_maxLen_of hby hbound)
  rw [g4] at hown1
  have hr:((do pure (.value (← Builtin.append_ #[t,t] ty #[.slice (some ⟨g',0,none⟩) len c'',.slice A nn c])):Sem Next).run P w)=.ok (.value v1) w1:=by simp only [Sem.run_bind,hrun,Result.andThen_ok,Sem.run_pure]
  have hφn:φ n=none:=hm.fresh n (Nat.le_refl _)
  have h1c:v1.oneCell'=true:=by rcases hown1.2 with ⟨rfl,_⟩ | ⟨_,_,_,rfl,_⟩ <;> rfl
  have ext:Ext φ (updP φ n v1):=ext_updP v1 hφn
  have ok':PhiOk (updP φ n v1):=fun j u hu=>by
   by_cases hj:j=n
   ·subst hj; rw [updP_same] at hu; cases hu; exact h1c
   ·rw [updP_ne _ _ hj] at hu; exact hm.ok j u hu
  have fr':∀ j,n+1≤j→updP φ n v1 j=none:=fun j hj=>by rw [updP_ne _ _ (by omega)]; exact hm.fresh j (by omega)
  have hltake:(cs.take (len * z)).length=len * z:=by rw [List.length_take]; omega
  have hyl:ys.length=nn * z:=by rw [n1.length,n2]
  have hcsl:(cs.take (len * z)++ys).length=(len+nn) * z:=by rw [List.length_append,hltake,hyl,Nat.add_mul]
  have hall:allC (cs.take (len * z)++ys):=fun q hq=>by
   rcases List.mem_append.1 hq with hq | hq
   ·exact h7 q (List.mem_of_mem_take hq)
   ·exact hac q hq
  have holdT:RepTs φ Z w (cs.take (len * z)) (cur.toList.take (len * z)):=by
   have:=h6.take (len * z)
   rwa [List.take_take,Nat.min_eq_left (by omega)] at this
  -- the block stays
  have stay:∀ (cur':Array Value) (c1:Nat),w1.heap[g']? = some (.cells cur' e' (0,0))→cur'.toList.take ((len+nn) * z)=cur.toList.take (len * z)++news→v1=.slice (some ⟨g',0,none⟩) (len+nn) c''→len+nn≤c''→cur'.size=cur.size→KeepZ Z w w1→w1.os=w.os→w1.tape=w.tape→w1.output=w.output→w1.heap.size=w.heap.size→(∀ k,k ≠ g'→w1.heap[k]? = w.heap[k]?) →
    Done P φ Z m (n+1) w ((do pure (.value (← Builtin.append_ #[t,t] ty #[.slice (some ⟨g',0,none⟩) len c'',.slice A nn c])):Sem Next).run P w) ⟨.sv n 0 (len+nn),[(i,none),(n,some (.box e' z (cs.take (len * z)++ys)))]⟩:=by
   intro cur' c1 hcur' htk hv1 hcap hcs hkeep hos htape hout hsize hheap
   have key:=hm.succ.change (i0:=i) (j0:=n) (g:=g') (Z':=Z) (m':=updM (updM m i none) n (some (.box e' z (cs.take (len * z)++ys)))) hi rfl hv rfl ext ok' fr' (fun _ _ h=>h) (fun _ _ h=>.inl h) hkeep hos htape hout hsize hheap (fun j b hj=>by
    by_cases hjn:j=n
    ·subst hjn
     rw [updM_same] at hj; cases hj
     have hsp:(len+nn) * z≤c'' * z:=Nat.mul_le_mul_right _ hcap
     refine .inr ⟨v1,updP_same _ _ _,boxUpd (g:=g') (cur:=cur') (n':=len+nn) (c:=c'') h1 hsz (by rw [hv1]; rfl) hcur' (by rw [hcsl,hcs]; exact Nat.le_trans hsp hcz) ?_ hall h8 hv1 (by rw [hcs]; exact hcz) hcm,.inr ⟨by rw [hv1]; rfl,rfl⟩⟩
     rw [hcsl,htk]
     exact (holdT.append n1).mono ext (fun _ _ h=>h) hkeep
    ·rw [updM_ne _ _ hjn] at hj
     by_cases hji:j=i
     ·subst hji; rw [updM_same] at hj; cases hj
     ·rw [updM_ne _ _ hji] at hj; exact .inl ⟨hj,hji⟩)
   refine ⟨v1,w1,_,Z,.inl hr,key.1, ?_,key.2⟩
   rw [hv1]
   exact .sv (by rw [updP_same]) hcap hcm (fun _=>rfl) fun _=>⟨rfl,Nat.le_refl _⟩
  rcases halt with ⟨h0,rfl,rfl⟩ | ⟨q,cur0,cap,cur',hq,rfl,hh,rfl,hcs⟩ | ⟨cap,cur',rfl,rfl,hcap,hcm1,hcs,htk⟩
  ·subst h0
   obtain rfl:news=[]:=List.eq_nil_of_length_eq_zero (by simpa using n2)
   exact stay cur 0 h4 (by simp) rfl hl rfl (keep_refl _ _) rfl rfl rfl rfl fun _ _=>rfl
  ·cases hq
   rw [h4] at hh; cases hh
   have hcur':=setRow_heap w g' cur cur' e' _ h4
   rcases hown1.2 with ⟨hq,_⟩ | ⟨q,cap,cur2,hq,hh2,hcap2,_,_,htk2⟩
   ·cases hq
   ·cases hq
    rw [hcur'] at hh2; cases hh2
    exact stay _ 0 hcur' htk2 rfl hcap2 hcs (keepZ_of_heap fun k o hz=>setRow_other w g' k cur' (by rintro rfl; exact h8 o hz)) rfl rfl rfl (by simp) fun k hk=>setRow_other w g' k cur' hk
  ·have key:=hm.succ.quiet (φ':=φ) (m':=updM m i none) (fun _ _ h=>h) hm.ok hm.succ.fresh (fun j b hj=>by
    by_cases hji:j=i
    ·subst hji; rw [updM_same] at hj; cases hj
    ·rw [updM_ne _ _ hji] at hj; exact .inl hj)
   have hts:RepTs φ Z w.drew (cs.take (len * z)++ys) (cur'.toList.take (cs.take (len * z)++ys).length):=by
    rw [hcsl,← g4,htk]
    rw [g4]
    exact RepTs.mono (φ:=φ) (φ':=φ) (Z:=Z) (Z':=Z) (w:=w) (w':=w.drew) (fun _ _ h=>h) (fun _ _ h=>h) (fun _ _ _=>rfl) (holdT.append n1)
   have hsp:(len+nn) * z≤cap * z:=Nat.mul_le_mul_right _ hcap
   obtain ⟨q1,q2⟩:=key.1.drew.allocMut (id:=n) (by omega) hφn (e:=e') (z:=z) (cs:=cs.take (len * z)++ys) (cur:=cur') (v:=.slice (some ⟨w.heap.size,0,none⟩) (len+nn) cap) h1 hsz (by rw [hcsl,hcs,g4]; exact hsp) hts hall
    (.inr ⟨_,_,rfl,by rw [hcs,g4],hcm1⟩)
   exact ⟨_,_,_,_,.inl hr,q1,.sv (updP_same _ _ _) hcap hcm1 (fun _=>rfl) (fun _=>⟨rfl,Nat.le_refl _⟩),(key.2.trans (Step.drew _ _ _ _)).trans q2⟩

/-- A row of one's own without its spare room. -/
theorem clipMut_sound (hm:RelM P φ Z m n w) {i co len t k:Nat} {k1 k2:IntKind} {e':TypeId} {u:Value} (he:elT P t=some e') (hk:sz P e'=some k)
  (h:RepT φ Z w (.sv i co len) u) (hco:co=0) :
  ∃ v,(Instr.sliceAt t u none (some (.int k1 (len:Int))) (some (.int k2 (len:Int)))).run P w=.ok v w∧RepT φ Z w (.sv i 0 len) v:=by
 subst hco
 cases h with
 | @sv _ _ _ g' n' c' c'' A' hq hl hmx ha h0 =>
  obtain ⟨rfl,hcc⟩:=h0 rfl
  have hrun:(Instr.sliceAt t (.slice (some ⟨g',0,none⟩) len c'') none (some (.int k1 (len:Int))) (some (.int k2 (len:Int)))).run P w=.ok (.slice (some ⟨g',0,none⟩) len len) w:=by
   have r1:=run_sliceBound (P:=P) w k2 (len:Int) c'' .slice3Acap (by omega) (by omega)
   have r2:=run_sliceBound (P:=P) w k1 (len:Int) len .slice3B (by omega) (by omega)
   have hb:(Instr.sliceBounds true len c'' none (some (.int k1 (len:Int))) (some (.int k2 (len:Int)))).run P w=.ok (0,len,len) w:=by
    unfold Instr.sliceBounds
    simp only [Sem.run_bind,if_true,r1,Result.andThen_ok,Int.toNat_natCast,r2,Sem.run_pure]
   simp [Instr.sliceAt,Instr.slice,run_underlying (und_of_elT he),hb,run_sizeOf hk,add_zero']
  exact ⟨_,hrun,.sv hq (Nat.le_refl _) (by omega) (fun _=>rfl) (fun _=>⟨rfl,by omega⟩)⟩
theorem appNilMut_sound (hm:RelM P φ Z m n w) {t ty e k by_ nn:Nat} {ys:List T} {y:Value} {yt:T} {E:Eff} (ht:elT P t=some e) (hk:szz P e=some k) (hb:bytes P e=some by_)
  (hy:RepT φ Z w yt y) (hys:ecells m k yt=some (nn,ys)) (hx:appNilMut e k by_ n nn ys=some E) :
  Done P φ Z m (n+1) w ((do pure (.value (← Builtin.append_ #[t,t] ty #[.slice none 0 0,y])):Sem Next).run P w) E:=by
 unfold appNilMut at hx
 obtain ⟨⟨hk0,hby,hnn,hbound,hac⟩,hx⟩:=tst_eq hx
 cases hx
 obtain ⟨inf,zz,g1,g2,g3,g4⟩:=szz_spec hk
 have hbi:inf.bytes=by_:=by simpa [bytes,g1] using hb
 have hsz:sz P e=some k:=by simp [sz,g1,g4]
 obtain ⟨A,c,news,rfl,n1,n2,n3⟩:=ecells_sound hm hy hk0 hys
 obtain ⟨v1,w1,hrun,hown,halt⟩:=run_append_tl (P:=P) w t ty e inf zz (und_of_elT ht) g1 g2 g3 (by omega) (.slice none 0 0) 0 [] (World.ownsRow_nil _ _ _ _) A nn c news (by rw [g4]; exact n2) n3 (n1.ones hm.ok hac) (by rw [hbi,Nat.zero_add]; exact hbound) (by rw [Nat.zero_add]; exact le_maxLen_of hby hbound)
 have hr:((do pure (.value (← Builtin.append_ #[t,t] ty #[.slice none 0 0,.slice A nn c])):Sem Next).run P w)=.ok (.value v1) w1:=by simp only [Sem.run_bind,hrun,Result.andThen_ok,Sem.run_pure]
 have hφn:φ n=none:=hm.fresh n (Nat.le_refl _)
 simp only [Nat.zero_add,List.nil_append] at halt
 rcases halt with ⟨h0,_,_⟩ | ⟨g,cur,cap,cur',h,_⟩ | ⟨cap,cur',rfl,rfl,hcap,hcm,hcs,htk⟩
 ·omega
 ·cases h
 ·have hyl:ys.length=nn * k:=by rw [n1.length,n2]
  have hts:RepTs φ Z w.drew ys (cur'.toList.take ys.length):=by
   rw [hyl,← g4,htk]
   exact RepTs.mono (φ:=φ) (φ':=φ) (Z:=Z) (Z':=Z) (w:=w) (w':=w.drew) (fun _ _ h=>h) (fun _ _ h=>h) (fun _ _ _=>rfl) n1
  have hsp:nn * k≤cap * k:=Nat.mul_le_mul_right _ hcap
  obtain ⟨q1,q2⟩:=hm.succ.drew.allocMut (id:=n) (by omega) hφn (e:=e) (z:=k) (cs:=ys) (cur:=cur') (v:=.slice (some ⟨w.heap.size,0,none⟩) nn cap) hk0 hsz (by rw [hyl,hcs,g4]; exact hsp) hts hac (.inr ⟨_,_,rfl,by rw [hcs,g4],hcm⟩)
  exact ⟨_,_,_,_,.inl hr,q1,.sv (updP_same _ _ _) hcap hcm (fun _=>rfl) (fun _=>⟨rfl,Nat.le_refl _⟩),(Step.drew _ _ _ _).trans q2⟩

theorem evAppend_sound (hm:RelM P φ Z m n w) {t ty:Nat} {x y:T} {u v:Value} {mu:Bool} {E:Eff} (h:RepT φ Z w x u) (hy:RepT φ Z w y v) (hx:evAppend P mu t m n y x=some E) :
  Done P φ Z m (n+1) w ((do pure (.value (← Builtin.append_ #[t,t] ty #[u,v])):Sem Next).run P w) E:=by
 unfold evAppend at hx
 split at hx
 ·obtain ⟨e,he,hx⟩:=obind_eq hx
  obtain ⟨k,hk,hx⟩:=obind_eq hx
  obtain ⟨by_,hb,hx⟩:=obind_eq hx
  split at hx
  ·rename_i hi
   obtain ⟨⟨nn,ys⟩,hp,hx⟩:=obind_eq hx
   exact appMut_sound hm he hk hb hi h hy hp hx
  ·cases hx
 ·obtain ⟨e,he,hx⟩:=obind_eq hx
  obtain ⟨k,hk,hx⟩:=obind_eq hx
  obtain ⟨by_,hb,hx⟩:=obind_eq hx
  split at hx
  ·rename_i hi
   obtain ⟨ys,hp,hx⟩:=obind_eq hx
   cases h with
   | loc h=>exact appArr_sound hm he hk hb hi h (elems_rep hm hy hp) hx
  ·cases hx
 ·obtain ⟨e,he,hx⟩:=obind_eq hx
  obtain ⟨k,hk,hx⟩:=obind_eq hx
  obtain ⟨by_,hb,hx⟩:=obind_eq hx
  cases h
  split at hx
  ·obtain ⟨⟨nn,ys⟩,hp,hx⟩:=obind_eq hx
   exact appNilMut_sound hm he hk hb hy hp hx
  ·obtain ⟨ys,hp,hx⟩:=obind_eq hx
   exact appNil_sound hm he hk hb (elems_rep hm hy hp) hx
 ·cases hx
end
end TL

namespace TL
open Go Go.RowKit Go.MapKept
section
variable {P:Program} {φ:Phi} {Z:Zs} {m:Mem} {n:Nat} {w:World}
theorem mapZ_spec {t:Nat} {z:V} (h:mapZ P t=some z):∃ k e i zv,P.underlying t=some (.map k e)∧P.underlying k=some (.int .i64)∧P.info? e=some i∧i.zero=some zv∧z.flat=true∧z.cell=true∧∀ (Z:Zs) (w:World),RepV Z w z zv:=by
 unfold mapZ at h
 cases hu:P.underlying t with
 | none=>rw [hu] at h; cases h
 | some d =>
  rw [hu] at h
  simp only [Option.bind_some] at h
  split at h
  ·rename_i k e
   split at h
   ·rename_i hk
    have hk2:P.underlying k=some (.int .i64):=by
     unfold intK at hk
     cases hq:P.underlying k with
     | none=>rw [hq] at hk; cases hk
     | some q =>
      rw [hq] at hk
      simp only [Option.bind_some] at hk
      split at hk
      ·cases hk; rfl
      ·cases hk
    cases hi:P.info? e with
    | none=>rw [hi] at h; cases h
    | some i =>
     rw [hi] at h
     simp only [Option.bind_some] at h
     split at h
     ·rename_i q x hz; cases h; exact ⟨k,e,i,_,rfl,hk2,hi,hz,rfl,rfl,fun Z w=>.int _ _⟩
     ·rename_i b hz; cases h; exact ⟨k,e,i,_,rfl,hk2,hi,hz,rfl,rfl,fun Z w=>.bool _⟩
     ·cases h
   ·cases h
  ·cases h
theorem find_rep {k:Int} : ∀ (es:List (Int × V)) (l:List MapEntry) (i:Nat),RepM es l →
  (mget k es=none∧Instr.findNow (.int .i64) (.int .i64 k) l i=some none∧∀ v,mset k v es=es++[(k,v)]) ∨
  ∃ u j e,mget k es=some u∧l[j]? = some e∧e.key=.int .i64 k∧(∀ (Z:Zs) (w:World),RepV Z w u e.val)∧Instr.findNow (.int .i64) (.int .i64 k) l i=some (some (i+j,e.val)) ∧
   ∀ v x,v.flat=true→v.cell=true→(∀ (Z:Zs) (w:World),RepV Z w v x)→RepM (mset k v es) (l.modify j fun e => { e with key:=.int .i64 k,val:=x })
 | [],[],i,_=>.inl ⟨rfl,rfl,fun v=>rfl⟩
 | (j,u) :: es,e :: l,i,⟨h1,h2,h3,h4,h5⟩=>by
  by_cases hj:j=k
  ·subst hj
   refine .inr ⟨u,0,e,by simp [mget],rfl,h1,h4,by simp [Instr.findNow,Instr.sameNow,h1],fun v x g1 g2 g3 => ?_⟩
   simp only [mset,if_true]
   exact ⟨rfl,g1,g2,g3,h5⟩
  ·have hs:Instr.sameNow (.int .i64) (.int .i64 k) e.key=some false:=by
    rw [h1]; simp [Instr.sameNow]; exact fun h=>hj h.symm
   rcases find_rep (k:=k) es l (i+1) h5 with ⟨g1,g2,g3⟩ | ⟨u',j',e',g1,g2,g3,g4,g5,g6⟩
   ·exact .inl ⟨by simp [mget,hj,g1],by simp [Instr.findNow,hs,g2],fun v=>by simp [mset,hj,g3]⟩
   ·refine .inr ⟨u',j'+1,e',by simp [mget,hj,g1],by simpa using g2,g3,g4,by simp [Instr.findNow,hs,g5]; omega,fun v x q1 q2 q3 => ?_⟩
    simp only [mset,if_neg hj,List.modify_succ_cons]
    exact ⟨h1,h2,h3,h4,g6 v x q1 q2 q3⟩
 | [],e :: l,i,h=>h.elim
 | (j,u) :: es,[],i,h=>h.elim
theorem RepM.snoc {k:Int} {v:V} {x:MapEntry} (h1:x.key=.int .i64 k) (h2:v.flat=true) (h3:v.cell=true) (h4:∀ (Z:Zs) (w:World),RepV Z w v x.val):∀ {es:List (Int × V)} {l:List MapEntry},RepM es l→RepM (es++[(k,v)]) (l++[x])
 | [],[],_=>⟨h1,h2,h3,h4,trivial⟩
 | (j,u) :: es,e :: l,⟨g1,g2,g3,g4,g5⟩=>⟨g1,g2,g3,g4,RepM.snoc h1 h2 h3 h4 g5⟩
 | [],e :: l,h=>h.elim
 | (j,u) :: es,[],h=>h.elim
theorem mp_at (hm:RelM P φ Z m n w) {id:Nat} {u:Value} {es:List (Int × V)} (h:RepT φ Z w (.mp id) u) (hi:m id=some (.mp es)) :
  ∃ k ents clock,φ id=some (.map (some k))∧u=.map (some k)∧w.heap[k]? = some (.map ents clock)∧RepM es ents.toList∧∀ o,¬Z k o:=by
 obtain ⟨v,hv,k,ents,clock,rfl,h2,h3,h4⟩:=hm.blk _ _ hi
 cases h with
 | mp h=>rw [hv] at h; cases h; exact ⟨k,ents,clock,hv,rfl,h2,h3,h4⟩
theorem evLookup_sound (hm:RelM P φ Z m n w) {t:Nat} {ok:Bool} {x i y:T} {u v:Value} (h:RepT φ Z w x u) (g:RepT φ Z w i v) (hx:evLookup P t m ok x i=some y):∃ r,(Instr.lookup t u v ok).run P w=.ok r w∧RepT φ Z w y r:=by
 unfold evLookup at hx
 split at hx
 ·rename_i id k
  split at hx
  ·rename_i es hi
   obtain ⟨z,hz,hx⟩:=obind_eq hx
   cases hx
   obtain ⟨kt,et,inf,zv,e1,e2,e3,e4,e5,e6,e7⟩:=mapZ_spec hz
   obtain ⟨b,ents,clock,f1,rfl,f3,f4,f5⟩:=mp_at hm h hi
   obtain rfl:=int_rep g
   have hck:=run_checkKey (w:=w) e2 (k:=.int .i64 k) rfl ents.isEmpty 9999
   have hzv:(zeroValue et).run P w=.ok zv w:=by simp [zeroValue,typeInfo,e3,e4]
   rcases find_rep (k:=k) es ents.toList 0 f4 with ⟨g1,g2,_⟩ | ⟨u,j,e,g1,g2,g3,g4,g5,_⟩
   ·have hf:=run_findKey (w:=w) e2 g2
    refine ⟨if ok then .tuple #[zv,.bool false] else zv, ?_, ?_⟩
    ·simp [Instr.lookup,run_underlying e1,run_getObj_map f3,hck,hf,hzv,Result.andThen]
    ·rw [g1]
     cases ok
     ·exact .v (e7 Z w)
     ·exact .tup (.cons (.v (e7 Z w)) (.cons (.v (.bool _)) .nil))
   ·have hf:=run_findKey (w:=w) e2 g5
    refine ⟨if ok then .tuple #[e.val,.bool true] else e.val, ?_, ?_⟩
    ·simp [Instr.lookup,run_underlying e1,run_getObj_map f3,hck,hf,Result.andThen]
    ·rw [g1]
     cases ok
     ·exact .v (g4 Z w)
     ·exact .tup (.cons (.v (g4 Z w)) (.cons (.v (.bool _)) .nil))
  ·cases hx
 ·cases hx
theorem evMapSet_sound (hm:RelM P φ Z m n w) {t:Nat} {x i y:T} {u v r:Value} {us:Nat × Option Blk} (h:RepT φ Z w x u) (g:RepT φ Z w i v) (q:RepT φ Z w y r) (hx:evMapSet P t m x i y=some us) :
  ∃ w',(Instr.mapUpdate t u v r).run P w=.ok () w'∧RelM P φ Z (updM m us.1 us.2) n w'∧Step φ Z m w φ Z (updM m us.1 us.2) w':=by
 unfold evMapSet at hx
 split at hx
 ·rename_i id k yv
  split at hx
  ·rename_i es hi
   obtain ⟨z,hz,hx⟩:=obind_eq hx
   obtain ⟨⟨q1,q2⟩,hx⟩:=tst_eq hx
   cases hx
   obtain ⟨kt,et,inf,zv,e1,e2,e3,e4,e5,e6,e7⟩:=mapZ_spec hz
   obtain ⟨b,ents,clock,f1,rfl,f3,f4,f5⟩:=mp_at hm h hi
   obtain rfl:=int_rep g
   have q3:∀ (Z:Zs) (w:World),RepV Z w yv r:=fun Z w=>by
    cases q with | v q=>exact flat_rep q1 q
   have hck:=run_checkKey (w:=w) e2 (k:=.int .i64 k) rfl false 9999
   have key:∀ ents' clock',RepM (mset k yv es) (Array.toList ents')→RelM P φ Z (updM m id (some (.mp (mset k yv es)))) n { w with heap:=w.heap.setIfInBounds b (.map ents' clock') } ∧ Step φ Z m w φ Z (updM m id (some (.mp (mset k yv es)))) { w with heap:=w.heap.setIfInBounds b (.map ents' clock') } := fun ents' clock' hr=>by
    have hs:=heap_set (o':=.map ents' clock') f3
    refine hm.change (i0:=id) (j0:=id) hi rfl f1 rfl (fun _ _ h=>h) hm.ok hm.fresh (fun _ _ h=>h) (fun _ _ h=>.inl h) (keepZ_of_heap fun k o hz=>hs.2 k (by rintro rfl; exact f5 o hz)) rfl rfl rfl (by simp) (fun k hk=>hs.2 k hk) fun j c hj => ?_
    by_cases hji:j=id
    ·subst hji
     rw [updM_same] at hj; cases hj
     exact .inr ⟨_,f1,⟨b,ents',clock',rfl,hs.1,hr,f5⟩,.inr ⟨rfl,rfl⟩⟩
    ·rw [updM_ne _ _ hji] at hj
     exact .inl ⟨hj,hji⟩
   rcases find_rep (k:=k) es ents.toList 0 f4 with ⟨g1,g2,g3⟩ | ⟨u,j,e,g1,g2,g3,g4,g5,g6⟩
   ·have hf:=run_findKey (w:=w) e2 g2
    have hk:=key (ents.push { key:=.int .i64 k,val:=r,born:=clock }) (clock+1) (by rw [g3,Array.toList_push]; exact f4.snoc rfl q1 q2 q3)
    refine ⟨_, ?_,hk⟩
    simp [Instr.mapUpdate,run_underlying e1,run_getObj_map f3,hck,hf,run_setObj_map _ f3,Result.andThen]
   ·have hf:=run_findKey (w:=w) e2 g5
    have hj:ents[j]? = some e:=by simpa using g2
    have hk:=key (ents.modify j fun e => { e with key:=.int .i64 k,val:=r }) clock (by rw [Array.toList_modify]; exact g6 _ _ q1 q2 q3)
    have hst:=run_keyThatStays (P:=P) (w:=w) (d:=.int .i64) (k:=.int .i64 k) rfl
    refine ⟨_, ?_,hk⟩
    simp [Instr.mapUpdate,run_underlying e1,run_getObj_map f3,hck,hf,hj,g3,hst,run_setObj_map _ f3,Result.andThen]
  ·cases hx
 ·cases hx
theorem evMakeMap_sound (hm:RelM P φ Z m n w) {t:Nat} {E:Eff} (hx:evMakeMap P t n=some E):Done P φ Z m (n+1) w ((do pure (.value (← Instr.makeMap t none)):Sem Next).run P w) E:=by
 unfold evMakeMap at hx
 obtain ⟨z,_,hx⟩:=obind_eq hx
 cases hx
 have key:=hm.succ.alloc_ (id:=n) (by omega) (hm.fresh n (Nat.le_refl _)) (.map #[] 0) (.mp []) (.map (some w.heap.size)) Z (fun _ _ h=>h) (fun _ _ h=>.inl h) rfl rfl ⟨w.heap.size,#[],0,rfl,heap_alloc_new w _,trivial,fun o ho=>absurd (hm.zlt.lt _ o ho) (by omega)⟩
 exact ⟨_,_,_,_,.inl (by simp [Instr.makeMap,newObj,Sem.run,Result.andThen]),key.1,.mp (updP_same _ _ _),key.2⟩
theorem us_makeMap {t:Nat} {E:Eff} (hx:evMakeMap P t n=some E):E.us ≠ []:=by
 unfold evMakeMap at hx
 obtain ⟨z,_,hx⟩:=obind_eq hx
 cases hx; simp
end
end TL

namespace TL
open Go Go.RowKit

section
variable {P:Program} {φ φ':Phi} {Z Z':Zs} {m m':Mem} {n:Nat} {w:World}

theorem repT_int {k:IntKind} {y:Int} {u:Value} (h:RepT φ Z w (.v (.int k y)) u):u=.int k y:=by
 cases h with | v h=>cases h; rfl
theorem Done.val {s:Sem Value} {x:T} {v:Value} (hm:RelM P φ Z m n w) (hr:s.run P w=.ok v w) (hx:RepT φ Z w x v):Done P φ Z m n w ((do pure (.value (← s)):Sem Next).run P w) ⟨x,[]⟩ :=
 Done.same hm (by simp only [Sem.run_bind,hr,Result.andThen_ok,Sem.run_pure]) hx

theorem Done.up {r:Result Next} {E:Eff} (h:Done P φ Z m (n+1) w r E) (hu:E.us ≠ []):Done P φ Z m (bump n E.us) w r E:=by
 cases hE:E.us with
 | nil=>exact absurd hE hu
 | cons x xs=>exact h
theorem us_alloc {t:Nat} {E:Eff} (hx:evAlloc P t n=some E):E.us ≠ []:=by
 unfold evAlloc at hx
 obtain ⟨zs,_,hx⟩:=obind_eq hx
 obtain ⟨k,_,hx⟩:=obind_eq hx
 obtain ⟨_,hx⟩:=tst_eq hx
 cases hx; simp
theorem us_box {t:Nat} {x:T} {E:Eff} (hx:evBox P t n x=some E):E.us ≠ []:=by
 unfold evBox at hx
 obtain ⟨k,_,hx⟩:=obind_eq hx
 obtain ⟨_,hx⟩:=tst_eq hx
 cases hx; simp
theorem us_buildSlice {t len:Nat} {parts:List (Nat × T)} {mu:Bool} {E:Eff} (hx:evBuildSlice P mu t m n len parts=some E):E.us ≠ []:=by
 unfold evBuildSlice at hx
 obtain ⟨e,_,hx⟩:=obind_eq hx
 obtain ⟨xs,_,hx⟩:=obind_eq hx
 obtain ⟨_,hx⟩:=tst_eq hx
 unfold newRow at hx
 obtain ⟨k,_,hx⟩:=obind_eq hx
 obtain ⟨_,hx⟩:=tst_eq hx
 split at hx
 ·obtain ⟨_,hx⟩:=tst_eq hx; cases hx; simp
 ·obtain ⟨vs,_,hx⟩:=obind_eq hx
  obtain ⟨_,hx⟩:=tst_eq hx; cases hx; simp
theorem us_make {t:Nat} {l c:T} {E:Eff} (hx:evMake P t n l c=some E):E.us ≠ []:=by
 unfold evMake at hx
 split at hx
 ·obtain ⟨e,_,hx⟩:=obind_eq hx
  obtain ⟨k,_,hx⟩:=obind_eq hx
  obtain ⟨b,_,hx⟩:=obind_eq hx
  obtain ⟨z,_,hx⟩:=obind_eq hx
  obtain ⟨_,hx⟩:=tst_eq hx
  cases hx; simp
 ·cases hx
theorem us_append {t:Nat} {x y:T} {mu:Bool} {E:Eff} (hx:evAppend P mu t m n y x=some E):E.us ≠ []:=by
 unfold evAppend at hx
 split at hx
 ·obtain ⟨e,_,hx⟩:=obind_eq hx
  obtain ⟨k,_,hx⟩:=obind_eq hx
  obtain ⟨b,_,hx⟩:=obind_eq hx
  split at hx
  ·obtain ⟨p,_,hx⟩:=obind_eq hx
   unfold appMut at hx
   obtain ⟨_,hx⟩:=tst_eq hx
   cases hx; simp
  ·cases hx
 ·obtain ⟨e,_,hx⟩:=obind_eq hx
  obtain ⟨k,_,hx⟩:=obind_eq hx
  obtain ⟨b,_,hx⟩:=obind_eq hx
  split at hx
  ·obtain ⟨p,_,hx⟩:=obind_eq hx
   unfold appArr at hx
   obtain ⟨_,hx⟩:=tst_eq hx
   cases hx; simp
  ·cases hx
 ·obtain ⟨e,_,hx⟩:=obind_eq hx
  obtain ⟨k,_,hx⟩:=obind_eq hx
  obtain ⟨b,_,hx⟩:=obind_eq hx
  split at hx
  ·obtain ⟨p,_,hx⟩:=obind_eq hx
   unfold appNilMut at hx
   obtain ⟨_,hx⟩:=tst_eq hx
   cases hx; simp
  ·obtain ⟨p,_,hx⟩:=obind_eq hx
   unfold appNil at hx
   obtain ⟨_,hx⟩:=tst_eq hx
   cases hx; simp
 ·cases hx

theorem RepTs.of {ρ:Operand→T} {ev:Operand→Value} (h:∀ o,RepT φ Z w (ρ o) (ev o)):∀ l:List Operand,RepTs φ Z w (l.map ρ) (l.map ev)
 | []=>.nil
 | p :: l=>.cons (h _) (RepTs.of h l)

theorem evLen_sound (hm:RelM P φ Z m n w) {ts:Array TypeId} {t ty:Nat} {l:List Nat} {x:T} {u:Value} {E:Eff} (hts:ts.toList=t :: l) (h:RepT φ Z w x u) (hx:evLen P t m x=some E) :
  Done P φ Z m (bump n E.us) w ((do pure (.value (← Builtin.len_ ts ty #[u])):Sem Next).run P w) E:=by
 have h0:ts[0]? = some t:=by rw [← Array.getElem?_toList,hts]; rfl
 have general:(obind (elT P t) fun _=>obind (slLen m x) fun n=>some (⟨.v (.int .i64 n),[]⟩:Eff))=some E→Done P φ Z m (bump n E.us) w ((do pure (.value (← Builtin.len_ ts ty #[u])):Sem Next).run P w) E:=by
  intro hx
  obtain ⟨e,he,hx⟩:=obind_eq hx
  obtain ⟨k,hk,hx⟩:=obind_eq hx
  cases hx
  have hu:∃ A c,u=.slice A k c:=by
   unfold slLen at hk
   split at hk
   ·cases hk; cases h; exact ⟨_,_,rfl⟩
   ·simp only [Option.map_eq_some_iff] at hk
    obtain ⟨xs,hxs,rfl⟩:=hk
    have hr:=elems_rep hm h hxs
    cases hr with
    | nil A c=>exact ⟨_,_,rfl⟩
    | sl h hn=>exact ⟨_,_,by rw [hn]⟩
  obtain ⟨A,c,rfl⟩:=hu
  refine Done.val hm (v:=.int .i64 k) ?_ (rep_int _ _)
  simp [Builtin.len_,h0,run_underlying (und_of_elT he),goInt]
 unfold evLen at hx
 split at hx
 ·obtain ⟨s,rfl,rfl⟩:=str_rep h
  obtain ⟨h1,hx⟩:=tst_eq hx
  cases hx
  refine Done.val hm (v:=.int .i64 s.size) ?_ (rep_int _ _)
  simp [Builtin.len_,h0,run_underlying (und_of_isStr h1),goInt]
 ·exact general hx

theorem evBuiltin_sound (hm:RelM P φ Z m n w) {b:Builtin} {ts:Array TypeId} {ty:Nat} {cs:Array Bool} {xs:List T} {us:List Value} {mu:Bool} {E:Eff} (h:RepTs φ Z w xs us) (hx:evBuiltin P mu b ts.toList m n xs=some E) :
  Done P φ Z m (bump n E.us) w ((Go.builtin b ts ty cs us.toArray).run P w) E:=by
 unfold evBuiltin at hx
 split at hx
 ·cases h with | cons h t=>cases t with | nil =>
  split at hx
  ·rename_i hts
   exact evLen_sound hm hts h hx
  ·cases hx
 ·cases h with | cons h t=>cases t with | cons g t=>cases t with | nil =>
  split at hx
  ·rename_i t t' hts
   obtain ⟨htt,hx1⟩:=tst_eq hx
   subst htt
   have:ts = #[t,t]:=by apply Array.ext'; simpa using hts
   subst this
   exact (evAppend_sound hm h g hx1).up (us_append hx1)
  ·cases hx
 ·cases h with | cons h t=>cases t with | cons g t=>cases t with | nil =>
  obtain rfl:=int_rep h; obtain rfl:=int_rep g
  rename_i a b
  cases hx
  refine Done.val hm (v:=.int .i64 (max a b)) ?_ (rep_int _ _)
  simp only [Builtin.max_,List.foldlM_cons,List.foldlM_nil,Builtin.max2,Sem.run_bind,Sem.run_pure,Result.andThen_ok]
  congr 2; rw [Int.max_def]; split <;> split <;> omega
 ·cases h with | cons h t=>cases t with | cons g t=>cases t with | nil =>
  obtain rfl:=int_rep h; obtain rfl:=int_rep g
  rename_i a b
  cases hx
  refine Done.val hm (v:=.int .i64 (min a b)) ?_ (rep_int _ _)
  simp only [Builtin.min_,List.foldlM_cons,List.foldlM_nil,Builtin.min2,Sem.run_bind,Sem.run_pure,Result.andThen_ok]
  congr 2; rw [Int.min_def]; split <;> split <;> omega
 ·cases hx

theorem opF_sound (hm:RelM P φ Z m n w) {mu:Bool} {ρ:Operand→T} {ev:Operand→Value} (hρ:∀ o,RepT φ Z w (ρ o) (ev o)) (o:Oper) {E:Eff} (hx:opF P mu ρ m n o.op=some E) :
  Done P φ Z m (bump n E.us) w ((execOp ev o).run P w) E:=by
 obtain ⟨dst,op,ty,pos,af,gd⟩:=o
 simp only at hx
 unfold execOp
 cases op with
 | move x=>simp only [opF] at hx; cases hx; exact Done.same hm (by simp) (hρ x)
 | assign x=>simp only [opF] at hx; cases hx; exact Done.same hm (by simp) (hρ x)
 | pick c a b =>
  simp only [opF] at hx
  obtain ⟨q,hq,hx⟩:=obind_eq hx; cases hx
  have:=boolOf_rep (hρ c) hq
  cases q
  ·exact Done.same hm (v:=ev b) (by simp [this,asBool]) (hρ b)
  ·exact Done.same hm (v:=ev a) (by simp [this,asBool]) (hρ a)
 | alloc t=>exact (evAlloc_sound hm hx).up (us_alloc hx)
 | box t x=>exact (evBox_sound hm (hρ x) hx).up (us_box hx)
 | build t parts =>
  simp only [opF] at hx
  obtain ⟨x,h,hx⟩:=obind_eq hx; cases hx
  obtain ⟨v,h1,h2⟩:=evBuild_sound hm (RepPs.of hρ parts.toList) h
  refine Done.val hm (v:=v) ?_ h2
  rw [← h1]; congr 2; apply Array.ext'; simp
 | buildSlice t len parts =>
  simp only [opF] at hx
  have h1:=evBuildSlice_sound hm (RepPs.of hρ parts.toList) hx
  have e:(List.map (fun p=>(p.1,ev p.2)) parts.toList).toArray=(parts.map fun (i,x)=>(i,ev x)):=by apply Array.ext'; simp
  rw [e] at h1; exact h1.up (us_buildSlice hx)
 | load t a =>
  simp only [opF] at hx
  obtain ⟨x,h,hx⟩:=obind_eq hx; cases hx
  obtain ⟨v,h1,h2⟩:=evLoad_sound hm (hρ a) h
  exact Done.val hm h1 h2
 | store t a x =>
  simp only [opF] at hx
  obtain ⟨u,h,hx⟩:=obind_eq hx; cases hx
  obtain ⟨w',h1,h2,h3⟩:=evStore_sound hm (hρ a) (hρ x) h
  exact ⟨undef,w',φ,Z,.inr ⟨by simp only [Sem.run_bind,h1,Result.andThen_ok,Sem.run_pure],rfl⟩,h2.succ,.v (.any _),h3⟩
 | makeMap t r =>
  cases r with
  | none=>exact (evMakeMap_sound hm hx).up (us_makeMap hx)
  | some r=>cases hx
 | lookup t x i ok =>
  simp only [opF] at hx
  obtain ⟨y,h,hx⟩:=obind_eq hx; cases hx
  obtain ⟨v,h1,h2⟩:=evLookup_sound hm (hρ x) (hρ i) h
  exact Done.val hm h1 h2
 | mapUpdate t x i y =>
  simp only [opF] at hx
  obtain ⟨u,h,hx⟩:=obind_eq hx; cases hx
  obtain ⟨w',h1,h2,h3⟩:=evMapSet_sound hm (hρ x) (hρ i) (hρ y) h
  exact ⟨undef,w',φ,Z,.inr ⟨by simp only [Sem.run_bind,h1,Result.andThen_ok,Sem.run_pure],rfl⟩,h2.succ,.v (.any _),h3⟩
 | insert t x i y =>
  simp only [opF] at hx
  obtain ⟨u,h,hx⟩:=obind_eq hx; cases hx
  obtain ⟨w',h1,h2,h3⟩:=evMapSet_sound hm (hρ x) (hρ i) (hρ y) h
  exact ⟨undef,w',φ,Z,.inr ⟨by simp only [Sem.run_bind,h1,Result.andThen_ok,Sem.run_pure],rfl⟩,h2.succ,.v (.any _),h3⟩
 | nilCheck x =>
  simp only [opF] at hx
  obtain ⟨y,h,hx⟩:=obind_eq hx; cases hx
  obtain ⟨rfl,ad,had⟩:=evNilCheck_sound (hρ x) h
  exact Done.same hm (v:=ev x) (by simp [had]) (hρ x)
 | binOp op t x y q =>
  simp only [opF] at hx
  obtain ⟨z,h,hx⟩:=obind_eq hx; cases hx
  obtain ⟨v,h1,h2⟩:=evBin_sound hm x y (hρ x) (hρ y) h
  exact Done.val hm h1 h2
 | unOp op t x =>
  cases op <;> simp only [opF] at hx <;> first | (cases hx; done) | skip
  ·obtain ⟨z,h,hx⟩:=obind_eq hx; cases hx
   unfold evNeg at h
   split at h
   ·rename_i k q hq
    cases h
    have hr:=hρ x
    rw [hq] at hr
    have:=int_rep hr
    exact Done.val hm (v:=.int k (k.wrap (0-q))) (by rw [this]; simp only [Op.unary,Op.intArith,Sem.run_pure]) (rep_int _ _)
   ·cases h
  ·obtain ⟨z,h,hx⟩:=obind_eq hx; cases hx
   have:=boolOf_rep (hρ x) h
   exact Done.val hm (v:=.bool (!z)) (by rw [this]; simp only [Op.unary,Sem.run_pure]) (rep_bool _)
 | convert src dst x =>
  simp only [opF] at hx
  obtain ⟨z,h,hx⟩:=obind_eq hx; cases hx
  obtain ⟨v,h1,h2⟩:=evConvert_sound hm (hρ x) h
  exact Done.val hm h1 h2
 | makeFunc f first cap =>
  cases f <;> simp only [opF] at hx <;> first | (cases hx; done) | skip
  rename_i q
  obtain ⟨hf,hx1⟩:=tst_eq hx
  subst hf; cases hx1
  refine Done.val hm (v:=.func (.func q) #[] (cap.map ev)) (by simp [Instr.makeFunc]) ?_
  have:=RepT.fn (f:=q) (RepTs.of hρ cap.toList)
  rw [show cap.map ev=(cap.toList.map ev).toArray by apply Array.ext'; simp]
  exact this
 | makeSlice t l c=>exact (evMake_sound hm (hρ l) (hρ c) hx).up (us_make hx)
 | slice t x lo hi mx =>
  cases mx <;> simp only [opF] at hx
  ·obtain ⟨z,h,hx⟩:=obind_eq hx; cases hx
   obtain ⟨v,h1,h2⟩:=evSlice_sound hm (hρ x) (ulo:=lo.map ev) (uhi:=hi.map ev) (fun t ht=>by
    cases lo with
    | none=>cases ht
    | some q=>cases ht; exact ⟨_,rfl,hρ q⟩) (fun ht=>by cases lo with
    | none=>rfl
    | some q=>cases ht) (fun t ht=>by
    cases hi with
    | none=>cases ht
    | some q=>cases ht; exact ⟨_,rfl,hρ q⟩) (fun ht=>by cases hi with
    | none=>rfl
    | some q=>cases ht) h
   exact Done.val hm h1 h2
  ·rename_i q
   have hρx:=hρ x
   have hρq:=hρ q
   have hhi:∀ y,hi.map ρ=some y→∃ u,hi.map ev=some u∧RepT φ Z w y u:=fun y hy=>by
    cases hi with
    | none=>cases hy
    | some q=>cases hy; exact ⟨_,rfl,hρ q⟩
   have hlo:lo.map ρ=none→lo.map ev=none:=fun hy=>by
    cases lo with
    | none=>rfl
    | some q=>cases hy
   generalize ρ x=X at *
   generalize ρ q=Q at *
   generalize lo.map ρ=LO at *
   generalize hi.map ρ=HI at *
   unfold evClipM at hx
   split at hx
   ·split at hx
    ·rename_i k1 h k2 c
     obtain ⟨⟨c0,c1,c2⟩,hx⟩:=tst_eq hx
     obtain ⟨e',he,hx⟩:=obind_eq hx
     obtain ⟨k,hk,hx⟩:=obind_eq hx
     cases hx
     subst c1 c2
     obtain ⟨uh,e1,hrh⟩:=hhi _ rfl
     have e2:=hlo rfl
     have eh:=repT_int hrh
     have em:=repT_int hρq
     obtain ⟨v,h1,h2⟩:=clipMut_sound (P:=P) (k1:=k1) (k2:=k2) hm he hk hρx c0
     rw [← em,← eh,← e1,← e2] at h1
     exact Done.val hm h1 h2
    ·cases hx
   ·obtain ⟨z,h,hx⟩:=obind_eq hx; cases hx
    obtain ⟨v,h1,h2⟩:=evClip_sound (P:=P) (w:=w) hρx hρq (ulo:=lo.map ev) (uhi:=hi.map ev) hlo hhi h
    exact Done.val hm h1 h2
 | fieldAddr t x f =>
  simp only [opF] at hx
  obtain ⟨z,h,hx⟩:=obind_eq hx; cases hx
  obtain ⟨v,h1,h2⟩:=evFieldAddr_sound (P:=P) (hρ x) h
  exact Done.val hm h1 h2
 | field t x f =>
  simp only [opF] at hx
  obtain ⟨z,h,hx⟩:=obind_eq hx; cases hx
  obtain ⟨v,h1,h2⟩:=evField_sound (P:=P) (hρ x) h
  exact Done.val hm h1 h2
 | indexAddr t x i =>
  simp only [opF] at hx
  obtain ⟨z,h,hx⟩:=obind_eq hx; cases hx
  obtain ⟨v,h1,h2⟩:=evIndexAddr_sound hm (hρ x) (hρ i) h
  exact Done.val hm h1 h2
 | index t x i =>
  simp only [opF] at hx
  obtain ⟨z,h,hx⟩:=obind_eq hx; cases hx
  obtain ⟨v,h1,h2⟩:=evIndex_sound (P:=P) (hρ x) (hρ i) h
  exact Done.val hm h1 h2
 | extract x i =>
  simp only [opF] at hx
  obtain ⟨z,h,hx⟩:=obind_eq hx; cases hx
  obtain ⟨v,h1,h2⟩:=evExtract_sound (P:=P) (hρ x) h
  exact Done.val hm h1 h2
 | call c =>
  obtain ⟨callee,args,ats⟩:=c
  cases callee with
  | builtin b =>
   simp only [opF] at hx
   have h:=RepTs.of hρ args.toList
   have h1:=evBuiltin_sound (ty:=ty) (cs:=args.map fun | .const _=>true | _=>false) hm h hx
   simp only [resolve,Sem.run_bind,Sem.run_pure,Result.andThen_ok,invoke]
   rw [show args.map ev=(args.toList.map ev).toArray by apply Array.ext'; simp]
   exact h1
  | _=>cases hx
 | _=>cases hx
end
end TL

namespace TL
open Go Go.RowKit

/-- By definition; not seen as such by simp. -/
theorem nrfl {α:Sort _} {a:α} : a=a:=Eq.trans (Eq.refl a) (Eq.refl a)
def bindP {α:Type} (o:Option α) (k:α→Prop) [Hd k]:Prop:=∃ x,o=some x∧k x
@[simp] theorem bindP_some {α:Type} (x:α) (k:α→Prop):bindP (some x) k=k x:=by simp [bindP]
@[simp] theorem bindP_none {α:Type} (k:α→Prop):bindP (none:Option α) k=False:=by simp [bindP]

/-- A branch, its condition a Bool. -/
def iteP (c:Bool) (A B:Prop) [Hd A] [Hd B]:Prop:=if c then A else B
@[simp] theorem iteP_true (A B:Prop):iteP true A B=A:=nrfl
@[simp] theorem iteP_false (A B:Prop):iteP false A B=B:=nrfl
theorem iteP_intro {c:Bool} {A B:Prop} (h:c=true→A) (h':c=false→B):iteP c A B:=by cases c <;> simp_all

/-- A contract over abstract memory: called with whatever memory of the frame's own it returns a value and turns memory as told. -/
def FnS (P:Program) (f:Nat) (m:Mem) (n:Nat) (args:List T) (post:T→Mem→Nat→Prop):Prop :=
 (∃ fn,P.funcs[f]? = some fn ∧ (fn.name == "runtime.NumGoroutine") = false ∧ fn.body.isNone = false) ∧
 ∀ (φ:Phi) (Z:Zs) (w:World) (us:List Value),RelM P φ Z m n w→RepTs φ Z w args us →
  Calls P f us.toArray w fun e w'=>∃ v φ' Z' m' n' t,e=.returned v∧RelM P φ' Z' m' n' w'∧RepT φ' Z' w' t v∧Step φ Z m w φ' Z' m' w'∧post t m' n'

/-- A call of a function. -/
def callP (P:Program) (f:Nat) (m:Mem) (n:Nat) (args:List T) (k:T→Mem→Nat→Prop) [Hd k]:Prop :=
 (∃ vs r,FnZ P f vs r∧(mapO (bor false m 4) args=some vs∨(mapO (bor true m 4) args=some vs∧r.flat=true))∧k (.v r) m n) ∨
 (∃ post,FnS P f m n args post∧∀ t m' n',post t m' n'→k t m' n')

/-- The state behind a call. -/
def S.aft (s:S) (d:Option Nat) (x:T) (m:Mem) (n:Nat) [Hd s] [Hd x]:S := { s with tm:=match d with | some d=>updT s.tm d x | none=>s.tm,m:=m,n:=n }

/-- A slice beside nil: an empty one may be nil or not. -/
def nilP (P:Program) (t:TypeId) (x:T) (k:Bool→Prop) [Hd k]:Prop :=
 (elT P t).isSome=true∧match x with
  | .v (.sl xs)=>∀ b:Bool,(b=true→xs=[])→k b
  | .nil=>k true
  | _=>False
/-- One operation. -/
def opP (P:Program) (s:S) (o:Oper) (K:S→Prop) [Hd s] [Hd o] [Hd K]:Prop :=
 match o.op with
 | .call { callee:=.value g,args,.. } => match s.ev g with
  | .fn f cap=>callP P f s.m s.n (args.toList.map s.ev++cap) fun t m n=>K (s.aft o.dst t m n)
  | .v (.fn f cap)=>callP P f s.m s.n (args.toList.map s.ev++cap.map .v) fun t m n=>K (s.aft o.dst t m n)
  | _=>False
 | .binOp .eql t x (.const (.slice none 0 0)) _=>nilP P t (s.ev x) fun b=>K (s.app o.dst ⟨.v (.bool b),[]⟩)
 | .binOp .neq t x (.const (.slice none 0 0)) _=>nilP P t (s.ev x) fun b=>K (s.app o.dst ⟨.v (.bool !b),[]⟩)
 | op=>bindP (opF P s.mu s.ev s.m s.n op) fun E=>K (s.app o.dst E)

/-- What a place bears whose operation was passed by. -/
abbrev und:T:=.v (.tup [])
/-- What a guard reads. -/
def guardOf (b:Bool):T→Option Bool
 | .v (.bool c)=>some (c == b)
 | .v (.tup [])=>some false
 | _=>none
@[simp] theorem guardOf_bool (b c:Bool):guardOf b (.v (.bool c))=some (c == b):=rfl
@[simp] theorem guardOf_und (b:Bool):guardOf b (.v (.tup []))=some false:=rfl
def dstOf (all:List Oper) (j:Nat) [Hd all]:Option Nat:=(all[j]?).bind (·.dst)
def guardB (all:List Oper) (s:S) (g:Option (Nat × Bool)) [Hd all] [Hd s]:Option Bool :=
 match g with
 | none=>some true
 | some (j,b)=>obind (dstOf all j) fun d=>guardOf b (s.tm d)

def opsP (P:Program) (all l:List Oper) (Q:S→Prop) (s:S) [Hd all] [Hd l] [Hd Q] [Hd s]:Prop :=
 match l with
 | []=>Q s
 | o :: rest=>bindP (guardB all s o.guard) fun g=>iteP g (opP P s o fun s'=>opsP P all rest Q s') (opsP P all rest Q (s.put o.dst und))
termination_by structural l


/-- What a function's results are to others. -/
def outs (P:Program) (s:S):List ResultVar→Option (List V)
 | []=>some []
 | .tmp t :: rs=>obind (bor true s.m 4 (s.tm t)) fun x=>obind (outs P s rs) fun xs=>some (x :: xs)
 | .cell a t :: rs=>obind (evLoad P t s.m (s.tm a)) fun y=>obind (bor true s.m 4 y) fun x=>obind (outs P s rs) fun xs=>some (x :: xs)
def outV:List V→V
 | [x]=>x
 | xs=>.tup xs

inductive TExit where
 | normal | exit (id:Nat) | ret

/-- The end of a function. -/
def retP (P:Program) (rs:List ResultVar) (R:V→Prop) (e:TExit) (s:S) [Hd R] [Hd s]:Prop :=
 match e with
 | .exit _=>False
 | _=>bindP (outs P s rs) fun vs=>R (outV vs)

def thenP (A:S→Prop) (Q:TExit→S→Prop) (e:TExit) (s:S) [Hd A] [Hd Q] [Hd s]:Prop :=
 match e with
 | .normal=>A s
 | e=>Q e s
def blockP (id:Nat) (Q:TExit→S→Prop) (e:TExit) (s:S) [Hd Q] [Hd s]:Prop :=
 match e with
 | .exit i=>if i=id then Q .normal s else Q (.exit i) s
 | e=>Q e s

/-- Operations that make nothing and change nothing. -/
def isVal:Op→Bool
 | .alloc _ | .box .. | .buildSlice .. | .makeSlice .. | .store .. | .makeMap .. | .mapUpdate .. | .insert .. => false
 | .slice _ _ _ _ (some _)=>false
 | .call { callee:=.builtin .append,.. } => false
 | .call { callee:=.builtin _,.. } => true
 | .call _=>false
 | .binOp .eql _ _ (.const (.slice none 0 0)) _=>false
 | .binOp .neq _ _ (.const (.slice none 0 0)) _=>false
 | _=>true
def rst (m:Mem) (l:List Nat):Mem:=fun i=>if i ∈ l then m i else none
def S.rs (s:S) (l:List Nat) [Hd s]:S := { s with m:=rst s.m l }
def S.wm (s:S) (m:Mem) (n:Nat) [Hd s]:S := { s with m:=m,n:=n }
def keepP (l:List Nat) (m m':Mem):Prop:=∀ i ∈ l,m' i=m i
def opAt (all:List Oper) (j:Nat) [Hd all]:Option Oper:=all[j]?
def idsAt (ids:List Nat) (L:List (List Nat)) (i:Nat):List Nat:=(L.getD i []).map fun j=>ids.getD j 0
/-- A call of a function without memory, its arguments pure: it may be told before its turn. -/
def pureQ (P:Program) (f:Nat) (args:List T) (k:V→Prop) [Hd args] [Hd k]:Prop:=∃ vs r,FnZ P f vs r∧args=vs.map .v∧k r
/-- A row that is made of pure values and never written: a pure value. -/
def bldQ (P:Program) (t:TypeId) (len:Nat) (xs:List (Nat × T)) (k:List V→Prop) [Hd xs] [Hd k]:Prop:=∃ (ps:List (Nat × V)) (e:TypeId) (vs:List V),xs=ps.map (fun q=>(q.1,T.v q.2))∧evBuildSlice P false t (fun _=>none) 0 len (ps.map fun q=>(q.1,T.v q.2))=some ⟨.loc 0,[(0,some (.arr e vs))]⟩∧k vs
def pureC (P:Program) (s:S) (o:Oper) (k:Option Nat→T→Prop) [Hd s] [Hd o] [Hd k]:Prop :=
 match o.op with
 | .call { callee:=.value (.func f),args,.. } => pureQ P f (args.toList.map s.ev) fun r=>k o.dst (.v r)
 | .buildSlice t len parts=>bldQ P t len (parts.toList.map fun p=>(p.1,s.ev p.2)) fun vs=>k o.dst (.v (.sl vs))
 | _=>False
/-- The operations of a region whose order is drawn, run in an order in which values come first. -/
def ordP (P:Program) (all:List Oper) (ids:List Nat) (L K:List (List Nat)) (Q:S→Prop) (l:List Nat) (s:S) [Hd all] [Hd ids] [Hd L] [Hd K] [Hd Q] [Hd s]:Prop :=
 match l with
 | []=>Q s
 | i :: rest=>iteP (decide (1000≤i)) (bindP (opAt all (i-1000)) fun o=>bindP (guardB all s o.guard) fun g=>iteP g (pureC P s o fun d x=>ordP P all ids L K Q rest (s.put d x)) (ordP P all ids L K Q rest (s.put o.dst und)))
   (bindP (opAt all i) fun o=>bindP (guardB all s o.guard) fun g=>iteP g
   (iteP (isVal o.op) (opP P (s.rs (idsAt ids L i)) o fun s'=>ordP P all ids L K Q rest (s'.wm s.m s.n)) (opP P s o fun s'=>keepP (idsAt ids K i) s.m s'.m∧ordP P all ids L K Q rest s'))
   (ordP P all ids L K Q rest (s.put o.dst und)))
termination_by structural l
def freeK (ops:Array Oper) (L K:List (List Nat)) (listed:Array Bool) (i:Nat):Bool :=
 Region.free .any ops listed i && (List.range ops.size).all fun j=>j == i || listed.getD j true || (match ops[j]? with
  | some oj=>oj.after.any (fun e=>Region.binds .any e && e.on == i) || (L.getD i []).all fun x=>(K.getD j []).contains x
  | none=>true)
def ordOk (ops:Array Oper) (L K:List (List Nat)):List Nat→Array Bool→Bool
 | [],listed=>(Region.ready .any ops listed).isEmpty
 | i :: rest,listed=>if 1000≤i then (match ops[i-1000]? with
  | some _=>(Region.ready .any ops listed).contains (i-1000) && freeK ops [] K listed (i-1000)
  | none=>false) && ordOk ops L K rest (listed.setIfInBounds (i-1000) true) else (match ops[i]? with
  | some o=>if isVal o.op then (Region.ready .any ops listed).contains i && freeK ops L K listed i else Region.ready .any ops listed == [i]
  | none=>false) && ordOk ops L K rest (listed.setIfInBounds i true)
/-- Orders that part where one of several operations may come first. -/
inductive OT where
 | done | run (l:List Nat) (r:OT) | alt (a b:OT)
def OT.heads:OT→List Nat
 | .run (i :: _) _=>[i]
 | .alt a b=>a.heads++b.heads
 | _=>[]
def OT.size:OT→Nat
 | .done=>0
 | .run l r=>l.length+r.size
 | .alt a _=>a.size
def stepOk (ops:Array Oper) (L K:List (List Nat)) (i:Nat) (listed:Array Bool):Bool:=if 1000≤i then (match ops[i-1000]? with
  | some _=>(Region.ready .any ops listed).contains (i-1000) && freeK ops [] K listed (i-1000)
  | none=>false) else (match ops[i]? with
  | some o=>if isVal o.op then (Region.ready .any ops listed).contains i && freeK ops L K listed i else Region.ready .any ops listed == [i]
  | none=>false)
def nextL (i:Nat) (listed:Array Bool):Array Bool:=if 1000≤i then listed.setIfInBounds (i-1000) true else listed.setIfInBounds i true
def preOk (ops:Array Oper) (L K:List (List Nat)):List Nat→Array Bool→Bool
 | [],_=>true
 | i :: rest,listed=>stepOk ops L K i listed && preOk ops L K rest (nextL i listed)
def aftL:List Nat→Array Bool→Array Bool
 | [],listed=>listed
 | i :: rest,listed=>aftL rest (nextL i listed)
def effOk (ops:Array Oper) (i:Nat):Bool:=decide (i<1000) && match ops[i]? with
 | some o => !isVal o.op
 | none=>false
def otOk (ops:Array Oper) (L K:List (List Nat)):OT→Bool→Array Bool→Bool
 | .done,false,listed=>(Region.ready .any ops listed).isEmpty
 | .run l r,false,listed=>preOk ops L K l listed && otOk ops L K r false (aftL l listed)
 | .alt a b,false,listed=>(Region.ready .any ops listed).all (fun i=>(a.heads++b.heads).contains i) && !(Region.ready .any ops listed).isEmpty && a.size == b.size && otOk ops L K a true listed && otOk ops L K b true listed
 | .run (i :: l) r,true,listed=>effOk ops i && preOk ops L K l (listed.setIfInBounds i true) && otOk ops L K r false (aftL l (listed.setIfInBounds i true))
 | .alt a b,true,listed=>a.size == b.size && otOk ops L K a true listed && otOk ops L K b true listed
 | _,_,_=>false
def ordT (P:Program) (all:List Oper) (ids:List Nat) (L K:List (List Nat)) (Q:S→Prop) (t:OT) (s:S) [Hd all] [Hd ids] [Hd L] [Hd K] [Hd Q] [Hd s]:Prop :=
 match t with
 | .done=>Q s
 | .run l r=>ordP P all ids L K (fun s=>ordT P all ids L K Q r s) l s
 | .alt a b=>ordT P all ids L K Q a s∧ordT P all ids L K Q b s
termination_by structural t
def drawP (P:Program) (ops:Array Oper) (Q:S→Prop) (s:S):Prop :=
 P.follows .mixedOrders=true∧((∃ ord ids L K,Region.noSelect ops=true∧ord.length=ops.size∧ordOk ops L K ord (Array.replicate ops.size false)=true∧ordP P ops.toList ids L K Q ord s) ∨
  ∃ t ids L K,Region.noSelect ops=true∧t.size=ops.size∧otOk ops L K t false (Array.replicate ops.size false)=true∧ordT P ops.toList ids L K Q t s)

def twp (P:Program) (c:Code) (Q:TExit→S→Prop) (s:S) [Hd c] [Hd Q] [Hd s]:Prop :=
 match c with
 | .skip=>Q .normal s
 | .seq a b=>twp P a (fun e s=>thenP (fun s=>twp P b Q s) Q e s) s
 | .cond c x y=>bindP (boolOf (s.ev c)) fun b=>iteP b (twp P x Q s) (twp P y Q s)
 | .block id c=>twp P c (fun e s=>blockP id Q e s) s
 | .loop c=>∃ (I:S→Prop) (μ:S→Nat),I s∧∀ s,I s→twp P c (fun e s1=>thenP (fun s'=>I s'∧μ s'<μ s) Q e s1) s
 | .exit i=>Q (.exit i) s
 | .ret=>Q .ret s
 | .region _ ops draw=>if draw then drawP P ops (Q .normal) s else opsP P ops.toList ops.toList (Q .normal) s
 | _=>False
termination_by structural c
end TL

namespace TL
open Go Go.RowKit

section
variable {P:Program} {N:Nat} {φ1:Phi} {m1:Mem} {Z0:Zs} {w0:World}

abbrev φ0:Phi:=fun _=>none
abbrev m0:Mem:=fun _=>none

/-- The frame and the abstract state, a call begun in w0. -/
def RelF (P:Program) (N:Nat) (φ1:Phi) (m1:Mem) (Z0:Zs) (w0:World) (s:S) (a:Act) (w:World):Prop :=
 ∃ φ Z,RelM P φ Z s.m s.n w∧(∀ t,RepT φ Z w (s.tm t) (a.tmps.getD t undef))∧a.tmps.size=N∧a.defers=[]∧Step φ1 Z0 m1 w0 φ Z s.m w

def dstOk (N:Nat) (o:Oper):Bool:=match o.dst with
 | some d=>decide (d<N)
 | none=>true
def dstsOk (N:Nat):Code→Bool
 | .seq a b=>dstsOk N a && dstsOk N b
 | .cond _ a b=>dstsOk N a && dstsOk N b
 | .block _ c=>dstsOk N c
 | .loop c=>dstsOk N c
 | .region _ ops _=>ops.toList.all (dstOk N)
 | _=>true

theorem getD_put (a:Array Value) (d t:Nat) (v u:Value) (h:d<a.size):(a.setIfInBounds d v).getD t u=if t=d then v else a.getD t u:=by
 simp only [Array.getD_eq_getD_getElem?,Array.getElem?_setIfInBounds]
 by_cases ht:d=t
 ·subst ht; simp [h]
 ·rw [if_neg ht,if_neg (fun h=>ht h.symm)]
theorem tm_put_rel {φ:Phi} {Z:Zs} {w:World} {f:Nat→T} {a:Act} {x:T} {v:Value} (h:∀ t,RepT φ Z w (f t) (a.tmps.getD t undef)) (hx:RepT φ Z w x v) {dst:Option Nat} (hd:∀ d,dst=some d→d<a.tmps.size) :
  (∀ t,RepT φ Z w ((match dst with | some d=>updT f d x | none=>f) t) ((a.put dst v).tmps.getD t undef))∧(a.put dst v).tmps.size=a.tmps.size∧(a.put dst v).defers=a.defers:=by
 cases dst with
 | none=>exact ⟨h,rfl,rfl⟩
 | some d =>
  refine ⟨fun t => ?_,by simp [Act.put],rfl⟩
  simp only [Act.put,updT]
  rw [getD_put _ _ _ _ _ (hd d rfl)]
  by_cases ht:t=d
  ·rw [if_pos ht,if_pos ht]; exact hx
  ·rw [if_neg ht,if_neg ht]; exact h t
theorem dst_lt {o:Oper} (h:dstOk N o=true):∀ d,o.dst=some d→d<N:=by
 intro d hd; simpa [dstOk,hd] using h

theorem eval_rep {φ:Phi} {Z:Zs} {w:World} {s:S} {a:Act} (h:∀ t,RepT φ Z w (s.tm t) (a.tmps.getD t undef)) (x:Operand):RepT φ Z w (s.ev x) (a.eval x):=by
 cases x with
 | tmp t=>exact h t
 | const v=>exact const_rep v
 | global g=>exact .v (.any _)
 | func f=>exact RepT.fn (us:=[]) .nil

theorem RepVs.append {Z:Zs} {w:World} {a b:List V} {us vs:List Value} (h:RepVs Z w a us) (g:RepVs Z w b vs):RepVs Z w (a++b) (us++vs):=by
 induction a generalizing us with
 | nil=>cases h; exact g
 | cons x xs ih=>cases h with | cons h t=>exact .cons h (ih t)
theorem RepVs.toTs {φ:Phi} {Z:Zs} {w:World} {a:List V} {us:List Value} (h:RepVs Z w a us):RepTs φ Z w (a.map .v) us:=by
 induction a generalizing us with
 | nil=>cases h; exact .nil
 | cons x xs ih=>cases h with | cons h t=>exact .cons (.v h) (ih t)

/-- Behind a call. -/
theorem after_call {φ:Phi} {Z:Zs} {m:Mem} {n:Nat} {w w':World} (hm:RelM P φ Z m n w) (hb:Below w.heap.size w w') :
  RelM P φ (freshZ Z w.heap.size w'.heap.size) m n w'∧Step φ Z m w φ (freshZ Z w.heap.size w'.heap.size) m w':=by
 have hk:KeepZ Z w w':=keepZ_of_heap fun k o hz=>hb.block k (hm.zlt.lt k o hz)
 have hs:SubZ Z (freshZ Z w.heap.size w'.heap.size):=fun k o h=>.inl h
 refine ⟨⟨hm.ok,hm.fresh,fun i b hi => ?_,hm.ne,⟨fun k o hz => ?_,hm.zlt.gl.keep hs hk⟩⟩,⟨fun _ _ h=>h,hs,hk,hb.os,hb.tape,hb.output,hb.size,fun k hk _=>hb.block k hk,fun _ _ h=>h,fun k o hz=>hz.imp id fun h=>.inl h.1⟩⟩
 ·obtain ⟨v,hv,hr⟩:=hm.blk i b hi
  refine ⟨v,hv,hr.keep (fun _ _ h=>h) hs hk fun hro k hk => ?_⟩
  have hlt:=hr.lt hro hk
  exact ⟨hb.block k hlt,fun o hz=>hz.resolve_right fun h=>by omega⟩
 ·rcases hz with h | h
  ·exact Nat.lt_of_lt_of_le (hm.zlt.lt k o h) hb.size
  ·exact h.2

theorem RepTs.mono' {φ:Phi} {Z Z':Zs} {w w':World} (hs:SubZ Z Z') (hk:KeepZ Z w w') {a:Act} {f:Nat→T} (h:∀ t,RepT φ Z w (f t) (a.tmps.getD t undef)) {φ':Phi} (he:Ext φ φ'):∀ t,RepT φ' Z' w' (f t) (a.tmps.getD t undef) :=
 fun t=>(h t).mono he hs hk

theorem enters {f : Nat} (h : ∃ fn,P.funcs[f]? = some fn ∧ (fn.name == "runtime.NumGoroutine") = false ∧ fn.body.isNone = false) (args : Array Value) (w : World) : (callFunc f args).run P w = .ok (.enter f args) w := by
 obtain ⟨fn,h1,h2,h3⟩:=h
 have h2' : fn.name ≠ "runtime.NumGoroutine" := by simpa using h2
 have h3':fn.body ≠ none:=by intro h; rw [h] at h3; cases h3
 simp [callFunc,h1,h2',h3']

theorem callP_sound {s:S} {a:Act} {w:World} {o:Oper} {K:S→Prop} {next:Act→World→Prop} {Q:Exit→Act→World→Prop} (h:RelF P N φ1 m1 Z0 w0 s a w) (ho:dstOk N o=true) {f:Nat} {args:List T} {us:List Value}
  (hrep:∀ φ Z,(∀ t,RepT φ Z w (s.tm t) (a.tmps.getD t undef))→RepTs φ Z w args us) (hrun:(execOp a.eval o).run P w=(callFunc f us.toArray).run P w) (hc:callP P f s.m s.n args fun t m n=>K (s.aft o.dst t m n))
  (hk:∀ s' a' w',RelF P N φ1 m1 Z0 w0 s' a' w'→K s'→next a' w'):o.wp P a w next Q:=by
 obtain ⟨φ,Z,hm,htm,hsz,hdf,hst⟩:=h
 have hargs:=hrep φ Z htm
 have mono:∀ (R R':Ending→World→Prop),(∀ e w',R e w'→R' e w')→Calls P f us.toArray w R→Calls P f us.toArray w R' :=
  fun R R' hR h cs=>let ⟨e,w',fr,h1,h2⟩:=h cs; ⟨e,w',fr,hR _ _ h1,h2⟩
 have fin:∀ φ' Z' m' n' t v w',RelM P φ' Z' m' n' w'→RepT φ' Z' w' t v→Step φ Z s.m w φ' Z' m' w'→K (s.aft o.dst t m' n')→next (a.put o.dst v) w':=by
  intro φ' Z' m' n' t v w' q1 hr q2 hK
  have htm':=RepTs.mono' q2.sub q2.keep htm q2.ext
  obtain ⟨t1,t2,t3⟩:=tm_put_rel htm' hr (dst:=o.dst) (fun d hd=>by rw [hsz]; exact dst_lt ho d hd)
  exact hk (s.aft o.dst t m' n') _ _ ⟨φ',Z',q1,t1,by rw [t2,hsz],by rw [t3,hdf],hst.trans q2⟩ hK
 unfold Oper.wp
 rcases hc with ⟨vs,r,hfn,hb,hK⟩ | ⟨post,hfn,hK⟩
 ·rw [hrun,enters hfn.1]
  rw [Oper.upon_enter]
  have fin':∀ v w',Below w.heap.size w w'→RepV (freshZ Z w.heap.size w'.heap.size) w' r v→next (a.put o.dst v) w':=by
   intro v w' hbl hr
   obtain ⟨q1,q2⟩:=after_call hm hbl
   exact fin _ _ _ _ _ v w' q1 (.v hr) q2 hK
  rcases hb with hb | ⟨hb,hfl⟩
  ·have hv:=bors_sound hm (k:=false) (Zb:=Z) (fun _ _ h=>h) (by simp) args us vs hargs hb
   refine mono _ _ ?_ (hfn.2 Z w us hm.zlt hv)
   rintro e w' ⟨v,rfl,h1,h2⟩
   exact fin' v w' h1 h2
  ·have hv:=bors_sound hm (k:=true) (Zb:=fun k _=>k<w.heap.size) (fun k o h=>hm.zlt.lt k o h) (fun _ g hg o=>hm.owned_lt hg) args us vs hargs hb
   refine mono _ _ ?_ (hfn.2 _ w us ⟨fun k o h=>h,hm.zlt.gl.keep (fun k o h=>hm.zlt.lt k o h) fun _ _ _=>rfl⟩ hv)
   rintro e w' ⟨v,rfl,h1,h2⟩
   exact fin' v w' h1 (flat_rep hfl h2)
 ·rw [hrun,enters hfn.1]
  rw [Oper.upon_enter]
  refine mono _ _ ?_ (hfn.2 φ Z w us hm hargs)
  rintro e w' ⟨v,φ',Z',m',n',t,rfl,h1,h2,h3,h4⟩
  exact fin _ _ _ _ _ v w' h1 h2 h3 (hK t m' n' h4)

theorem nil_run {φ:Phi} {Z:Zs} {w:World} {t:TypeId} {x:T} {u:Value} {xo yo:Operand} (he:(elT P t).isSome=true) (h:RepT φ Z w x u) (hx:(∃ xs,x=.v (.sl xs))∨x=.nil) :
  ∃ b:Bool,((∀ xs,x=.v (.sl xs)→b=true→xs=[])∧(x=.nil→b=true)) ∧
   (eqGuard .eql t xo yo u (.slice none 0 0)).run P w=.ok () w∧(binOp .eql t u (.slice none 0 0)).run P w=.ok (.bool b) w∧(eqGuard .neq t xo yo u (.slice none 0 0)).run P w=.ok () w∧(binOp .neq t u (.slice none 0 0)).run P w=.ok (.bool !b) w:=by
 have ht:∃ e,P.underlying t=some (.slice e):=by
  unfold elT at he
  cases hu:P.underlying t with
  | none=>simp [hu] at he
  | some d=>cases d <;> simp_all
 obtain ⟨e,ht⟩:=ht
 have run:∀ (A:Option Addr) (l c:Nat),(eqGuard .eql t xo yo (.slice A l c) (.slice none 0 0)).run P w=.ok () w∧(binOp .eql t (.slice A l c) (.slice none 0 0)).run P w=.ok (.bool A.isNone) w∧(eqGuard .neq t xo yo (.slice A l c) (.slice none 0 0)).run P w=.ok () w∧(binOp .neq t (.slice A l c) (.slice none 0 0)).run P w=.ok (.bool !A.isNone) w:=by
  intro A l c
  have g1:(eqGuard .eql t xo yo (.slice A l c) (.slice none 0 0)).run P w=.ok () w:=by simp [eqGuard]
  have g2:(eqGuard .neq t xo yo (.slice A l c) (.slice none 0 0)).run P w=.ok () w:=by simp [eqGuard]
  have b1:binOp .eql t (.slice A l c) (.slice none 0 0)=(do pure (.bool (← Op.equal t (.slice A l c) (.slice none 0 0)))):=rfl
  have b2:binOp .neq t (.slice A l c) (.slice none 0 0)=(do pure (.bool (!(← Op.equal t (.slice A l c) (.slice none 0 0))))):=rfl
  have e:=run_equal_slice_nil w t e A l c ht
  refine ⟨g1, ?_,g2, ?_⟩
  ·simp only [Sem.run_bind,b1,e,Result.andThen_ok,Sem.run_pure]
  ·simp only [Sem.run_bind,b2,e,Result.andThen_ok,Sem.run_pure]
 rcases hx with ⟨xs,rfl⟩ | rfl
 ·cases h with | v h =>
  cases h with
  | nil A c=>exact ⟨A.isNone,⟨fun xs h _=>(by cases h; rfl),fun h=>(by cases h)⟩,run A 0 c⟩
  | sl h hn hc hm hz=>exact ⟨false,⟨fun xs _ h=>(by cases h),fun h=>(by cases h)⟩,run _ _ _⟩
 ·cases h
  exact ⟨true,⟨fun xs h=>(by cases h),fun _=>rfl⟩,run _ _ _⟩
theorem nilP_sound {s:S} {a:Act} {w:World} {o:Oper} {K:S→Prop} {next:Act→World→Prop} {Q:Exit→Act→World→Prop} {t:TypeId} {x:Operand} {g:Bool→Bool} (h:RelF P N φ1 m1 Z0 w0 s a w) (ho:dstOk N o=true)
  (hc:nilP P t (s.ev x) fun b=>K (s.app o.dst ⟨.v (.bool (g b)),[]⟩))
  (hrun:∀ u,u=a.eval x→∀ b:Bool,((eqGuard .eql t x (.const (.slice none 0 0)) u (.slice none 0 0)).run P w=.ok () w∧(binOp .eql t u (.slice none 0 0)).run P w=.ok (.bool b) w∧(eqGuard .neq t x (.const (.slice none 0 0)) u (.slice none 0 0)).run P w=.ok () w∧(binOp .neq t u (.slice none 0 0)).run P w=.ok (.bool !b) w)→(execOp a.eval o).run P w=.ok (.value (.bool (g b))) w)
  (hk:∀ s' a' w',RelF P N φ1 m1 Z0 w0 s' a' w'→K s'→next a' w'):o.wp P a w next Q:=by
 obtain ⟨φ,Z,hm,htm,hsz,hdf,hst⟩:=h
 obtain ⟨he,hc⟩:=hc
 have hx:=eval_rep htm x
 have hor:(∃ xs,s.ev x=.v (.sl xs))∨s.ev x=.nil:=by
  split at hc
  ·rename_i xs e; exact .inl ⟨xs,e⟩
  ·rename_i e; exact .inr e
  ·exact hc.elim
 obtain ⟨b,⟨hb1,hb2⟩,hr⟩:=nil_run (xo:=x) (yo:=.const (.slice none 0 0)) he hx hor
 have hK:K (s.app o.dst ⟨.v (.bool (g b)),[]⟩):=by
  split at hc
  ·rename_i xs e; exact hc b (hb1 xs e)
  ·rename_i e; rw [hb2 e]; exact hc
  ·exact hc.elim
 have hgo:=hrun _ rfl b hr
 obtain ⟨t1,t2,t3⟩:=tm_put_rel htm (x:=.v (.bool (g b))) (v:=.bool (g b)) (.v (.bool _)) (dst:=o.dst) (fun d hd=>by rw [hsz]; exact dst_lt ho d hd)
 unfold Oper.wp
 rw [hgo,Oper.upon_value]
 exact hk (s.app o.dst ⟨.v (.bool (g b)),[]⟩) _ _ ⟨φ,Z,hm,t1,by rw [t2,hsz],by rw [t3,hdf],hst⟩ hK

theorem opP_sound {s:S} {a:Act} {w:World} {o:Oper} {K:S→Prop} {next:Act→World→Prop} {Q:Exit→Act→World→Prop} (h:RelF P N φ1 m1 Z0 w0 s a w) (ho:dstOk N o=true) (hc:opP P s o K)
  (hk:∀ s' a' w',RelF P N φ1 m1 Z0 w0 s' a' w'→K s'→next a' w'):o.wp P a w next Q:=by
 unfold opP at hc
 split at hc
 ·rename_i g args ts hop
  have run:∀ f us,a.eval g=.func (.func f) #[] us→(execOp a.eval o).run P w=(callFunc f ((args.toList.map a.eval)++us.toList).toArray).run P w:=by
   intro f us hg
   unfold execOp
   simp only [hop,resolve,hg,Deferred.ofValue,Sem.run_bind,Sem.run_pure,Result.andThen_ok,invoke]
   congr 2
   apply Array.ext'; simp
  split at hc
  ·rename_i f cap hg
   have hre:∀ φ Z,(∀ t,RepT φ Z w (s.tm t) (a.tmps.getD t undef))→∃ us,a.eval g=.func (.func f) #[] us∧RepTs φ Z w cap us.toList:=by
    intro φ Z htm
    have:=eval_rep htm g
    rw [hg] at this
    generalize a.eval g=u at this ⊢
    cases this with
    | fn h=>exact ⟨_,rfl,h⟩
   have h':=h
   obtain ⟨φ,Z,_,htm,_⟩:=h'
   obtain ⟨us,e1,_⟩:=hre φ Z htm
   refine callP_sound h ho (fun φ Z htm => ?_) (run f us e1) hc hk
   obtain ⟨us',e2,h2⟩:=hre φ Z htm
   rw [e1] at e2; cases e2
   exact (RepTs.of (eval_rep htm) args.toList).append h2
  ·rename_i f cap hg
   have hre:∀ φ Z,(∀ t,RepT φ Z w (s.tm t) (a.tmps.getD t undef))→∃ us,a.eval g=.func (.func f) #[] us∧RepVs Z w cap us.toList:=by
    intro φ Z htm
    have:=eval_rep htm g
    rw [hg] at this
    generalize a.eval g=u at this ⊢
    cases this with
    | v h=>cases h with | fn h=>exact ⟨_,rfl,h⟩
   have h':=h
   obtain ⟨φ,Z,_,htm,_⟩:=h'
   obtain ⟨us,e1,_⟩:=hre φ Z htm
   refine callP_sound h ho (fun φ Z htm => ?_) (run f us e1) hc hk
   obtain ⟨us',e2,h2⟩:=hre φ Z htm
   rw [e1] at e2; cases e2
   exact (RepTs.of (eval_rep htm) args.toList).append h2.toTs
  ·exact hc.elim
 ·rename_i t x ty hop
  refine nilP_sound h ho hc (fun u hu b hb => ?_) hk
  unfold execOp
  obtain ⟨q1,q2,q3,q4⟩:=hb
  rw [hu] at q1 q2 q3 q4
  have e:a.eval (.const (.slice none 0 0))=.slice none 0 0:=rfl
  simp only [hop,e,Sem.run_bind,q1,q2,Result.andThen_ok,Sem.run_pure]
 ·rename_i t x ty hop
  refine nilP_sound h ho (K:=fun s=>K s) (g:=fun b => !b) hc (fun u hu b hb => ?_) hk
  unfold execOp
  obtain ⟨q1,q2,q3,q4⟩:=hb
  rw [hu] at q1 q2 q3 q4
  have e:a.eval (.const (.slice none 0 0))=.slice none 0 0:=rfl
  simp only [hop,e,Sem.run_bind,q3,q4,Result.andThen_ok,Sem.run_pure]
 ·obtain ⟨E,hE,hK⟩:=hc
  obtain ⟨φ,Z,hm,htm,hsz,hdf,hst⟩:=h
  obtain ⟨v,w',φ',Z',hr,q1,q2,q3⟩:=opF_sound hm (eval_rep htm) o hE
  have htm':=RepTs.mono' q3.sub q3.keep htm q3.ext
  obtain ⟨t1,t2,t3⟩:=tm_put_rel htm' q2 (dst:=o.dst) (fun d hd=>by rw [hsz]; exact dst_lt ho d hd)
  have hnext:=hk (s.app o.dst E) _ _ ⟨φ',Z',q1,t1,by rw [t2,hsz],by rw [t3,hdf],hst.trans q3⟩ hK
  unfold Oper.wp
  rcases hr with hr | ⟨hr,rfl⟩
  ·rw [hr,Oper.upon_value]; exact hnext
  ·rw [hr,Oper.upon_skip]; exact hnext

/-- What is behind a piece of code. -/
def QC (P:Program) (N:Nat) (φ1:Phi) (m1:Mem) (Z0:Zs) (w0:World) (Q:TExit→S→Prop):Exit→Act→World→Prop
 | .normal,a,w=>∃ s,RelF P N φ1 m1 Z0 w0 s a w∧Q .normal s
 | .exit i,a,w=>∃ s,RelF P N φ1 m1 Z0 w0 s a w∧Q (.exit i) s
 | .ret,a,w=>∃ s,RelF P N φ1 m1 Z0 w0 s a w∧Q .ret s
 | _,_,_=>False

theorem put_any {s:S} {a:Act} {w:World} {o:Oper} (h:RelF P N φ1 m1 Z0 w0 s a w) (ho:dstOk N o=true):RelF P N φ1 m1 Z0 w0 (s.put o.dst und) (a.put o.dst undef) w:=by
 obtain ⟨φ,Z,hm,htm,hsz,hdf,hst⟩:=h
 obtain ⟨t1,t2,t3⟩:=tm_put_rel htm (show RepT φ Z w und undef from .v (RepV.tup (us:=[]) .nil)) (dst:=o.dst) (fun d hd=>by rw [hsz]; exact dst_lt ho d hd)
 exact ⟨φ,Z,hm,t1,by rw [t2,hsz],by rw [t3,hdf],hst⟩

theorem guard_sound {s:S} {a:Act} {w:World} {ops:Array Oper} {o:Oper} {g:Bool} (h:RelF P N φ1 m1 Z0 w0 s a w) (hall:ops.toList.all (dstOk N)=true) (hg:guardB ops.toList s o.guard=some g):Region.wanted o (yielded ops a.tmps)=g:=by
 obtain ⟨φ,Z,hm,htm,hsz,hdf,hst⟩:=h
 unfold Region.wanted
 cases hgd:o.guard with
 | none=>rw [hgd] at hg; simp [guardB] at hg; simp [hg]
 | some p =>
  obtain ⟨j,b⟩:=p
  rw [hgd] at hg
  simp only [guardB] at hg
  obtain ⟨d,hd,hg⟩:=obind_eq hg
  unfold dstOf at hd
  rw [Array.getElem?_toList] at hd
  have hlt:d<a.tmps.size:=by
   rw [hsz]
   cases hj:ops[j]? with
   | none=>simp [hj] at hd
   | some q =>
    have hq:q ∈ ops.toList:=by rw [Array.mem_toList_iff]; exact Array.mem_of_getElem? hj
    exact dst_lt (List.all_eq_true.1 hall q hq) d (by simpa [hj] using hd)
  have hr:=htm d
  rw [Array.getD_eq_getD_getElem?,Array.getElem?_eq_getElem hlt,Option.getD_some] at hr
  unfold guardOf at hg
  split at hg
  ·rename_i c hc
   rw [hc] at hr
   cases hg
   cases hr with | v hr =>
   have:a.tmps[d]? = some (.bool c):=by
    rw [Array.getElem?_eq_getElem hlt]
    generalize a.tmps[d]=u at hr
    cases hr; rfl
   simp only [yielded,hd,Option.bind_some,this]
   cases c <;> cases b <;> rfl
  ·rename_i hc
   rw [hc] at hr
   cases hg
   cases hr with | v hr =>
   have:a.tmps[d]? = some (.tuple #[]):=by
    rw [Array.getElem?_eq_getElem hlt]
    generalize a.tmps[d]=u at hr
    cases hr with | tup h=>cases h; rfl
   simp only [yielded,hd,Option.bind_some,this]
   rfl
  ·cases hg

theorem opsP_sound {Q:TExit→S→Prop} {ops:Array Oper} (hall:ops.toList.all (dstOk N)=true):∀ (l:List Oper),l.all (dstOk N)=true→∀ (s:S) (a:Act) (w:World),RelF P N φ1 m1 Z0 w0 s a w→opsP P ops.toList l (Q .normal) s →
  wpList P ops (QC P N φ1 m1 Z0 w0 Q) l a w:=by
 intro l
 induction l with
 | nil=>intro _ s a w h hc; exact ⟨s,h,hc⟩
 | cons o rest ih =>
  intro hl s a w h hc
  rw [List.all_cons,Bool.and_eq_true] at hl
  unfold opsP at hc
  obtain ⟨g,hg,hc⟩:=hc
  unfold wpList
  rw [guard_sound h hall hg]
  cases g
  ·rw [if_neg (by simp)]
   exact ih hl.2 _ _ _ (put_any h hl.1) (show opsP P ops.toList rest (Q .normal) (s.put o.dst und) from hc)
  ·rw [if_pos rfl]
   exact .inl (opP_sound h hl.1 (show opP P s o (fun s'=>opsP P ops.toList rest (Q .normal) s') from hc) fun s' a' w' hr hK=>ih hl.2 s' a' w' hr hK)

end
end TL

namespace TL
open Go Go.RowKit

def LeM (m m':Mem):Prop:=∀ i b,m i=some b→m' i=some b

theorem ob {α β:Type} {o o':Option α} {k k':α→Option β} {b:β} (h:obind o k=some b) (h1:∀ a,o=some a→o'=some a) (h2:∀ a,k a=some b→k' a=some b):obind o' k'=some b:=by
 obtain ⟨a,ha,hk⟩:=obind_eq h
 rw [h1 a ha]; exact h2 a hk
theorem ts {β:Type} {c:Prop} {d:Decidable c} {x x':Option β} {b:β} (h:tst c x=some b) (h1:x=some b→x'=some b):tst c x'=some b:=by
 obtain ⟨hc,hx⟩:=tst_eq h
 rw [tst_pos hc]; exact h1 hx

section
variable {P:Program} {m m':Mem} (hm:LeM m m')
include hm

theorem elems_mono {t:T} {xs:List V} (h:elems m t=some xs):elems m' t=some xs:=by
 cases t with
 | loc id =>
  simp only [elems] at h ⊢
  split at h
  ·rename_i e ys hi; rw [hm _ _ hi]; exact h
  ·rename_i ys hi; rw [hm _ _ hi]; exact h
  ·cases h
 | v y=>cases y <;> exact h
 | _=>exact h
theorem slLen_mono {t:T} {k:Nat} (h:slLen m t=some k):slLen m' t=some k:=by
 unfold slLen at h ⊢
 split at h
 ·exact h
 ·rename_i hne
  simp only [Option.map_eq_some_iff] at h ⊢
  obtain ⟨xs,h1,h2⟩:=h
  exact ⟨xs,elems_mono hm h1,h2⟩
omit hm in
theorem mapO_mono {α β:Type} {f g:α→Option β} (hf:∀ x y,f x=some y→g x=some y):∀ (xs:List α) (ys:List β),mapO f xs=some ys→mapO g xs=some ys
 | [],ys,h=>h
 | x :: xs,ys,h=>by
  obtain ⟨y,zs,h1,h2,rfl⟩:=mapO_cons h
  simp only [mapO,hf x y h1,Option.bind_some,mapO_mono hf xs zs h2,Option.map_some]
theorem bor_mono {k:Bool} : ∀ (d:Nat) (t:T) (x:V),bor k m d t=some x→bor k m' d t=some x:=by
 intro d
 have base:∀ d t x,((∃ y,t=.v y)∨t=.nil∨(∃ id,t=.loc id)∨(∃ cs o,t=.fptr cs o))→bor k m d t=some x→bor k m' d t=some x:=by
  rintro d t x (⟨y,rfl⟩ | rfl | ⟨id,rfl⟩ | ⟨cs,o,rfl⟩) h
  ·simpa [bor] using h
  ·simpa [bor] using h
  ·have e:∀ m:Mem,bor k m d (.loc id)=match m id with | some (.arr _ xs) | some (.ro xs)=>some (.sl xs) | _=>none:=by intro m; cases d <;> (simp only [bor]; rfl)
   rw [e] at h ⊢
   split at h
   ·rename_i e ys hi; rw [hm _ _ hi]; exact h
   ·rename_i ys hi; rw [hm _ _ hi]; exact h
   ·cases h
  ·cases o with
   | zero=>simpa [bor] using h
   | succ o=>simp [bor] at h
 induction d with
 | zero =>
  intro t x h
  cases t with
  | v y=>exact base _ _ _ (.inl ⟨y,rfl⟩) h
  | nil=>exact base _ _ _ (.inr (.inl rfl)) h
  | loc id=>exact base _ _ _ (.inr (.inr (.inl ⟨id,rfl⟩))) h
  | fptr cs o=>exact base _ _ _ (.inr (.inr (.inr ⟨cs,o,rfl⟩))) h
  | _=>simp [bor] at h
 | succ d ih =>
  intro t x h
  cases t with
  | v y=>exact base _ _ _ (.inl ⟨y,rfl⟩) h
  | nil=>exact base _ _ _ (.inr (.inl rfl)) h
  | loc id=>exact base _ _ _ (.inr (.inr (.inl ⟨id,rfl⟩))) h
  | fptr cs o=>exact base _ _ _ (.inr (.inr (.inr ⟨cs,o,rfl⟩))) h
  | agg cs=>simp only [bor] at h ⊢; exact ob h (fun xs=>mapO_mono ih cs xs) fun _ h=>h
  | tup cs =>
   simp only [bor,Option.map_eq_some_iff] at h ⊢
   obtain ⟨xs,h1,h2⟩:=h; exact ⟨xs,mapO_mono ih cs xs h1,h2⟩
  | fn f cs =>
   simp only [bor,Option.map_eq_some_iff] at h ⊢
   obtain ⟨xs,h1,h2⟩:=h; exact ⟨xs,mapO_mono ih cs xs h1,h2⟩
  | sv id co len =>
   simp only [bor] at h ⊢
   cases k with
   | false=>simp at h
   | true =>
    simp only [if_true] at h ⊢
    split at h
    ·rename_i e z cs hi
     rw [hm _ _ hi]
     exact ts h fun h=>ob h (fun xs=>mapO_mono ih _ xs) fun _ h=>h
    ·cases h
  | mp id=>simp [bor] at h
  | nf=>simp [bor] at h
  | ptr id off =>
   cases off with
   | succ o=>simp [bor] at h
   | zero =>
    simp only [bor] at h ⊢
    cases k with
    | false=>simp at h
    | true =>
     simp only [if_true] at h ⊢
     split at h
     ·rename_i e z cs hi
      rw [hm _ _ hi]
      exact ob h (fun xs=>mapO_mono ih _ xs) fun _ h=>h
     ·cases h
theorem evLoad_mono {t:Nat} {a x:T} (h:evLoad P t m a=some x):evLoad P t m' a=some x:=by
 cases a with
 | ptr id off =>
  simp only [evLoad] at h ⊢
  split at h
  ·rename_i hi; rw [hm _ _ hi]; exact h
  ·cases h
 | v y=>cases y <;> exact h
 | _=>exact h
theorem evIndexAddr_mono {t:Nat} {a i x:T} (h:evIndexAddr P t m a i=some x):evIndexAddr P t m' a i=some x:=by
 cases i with
 | v i =>
  cases i with
  | int k i =>
   simp only [evIndexAddr] at h ⊢
   refine ob h (fun _ h=>h) fun e h=>ob h (fun _ h=>h) fun k h => ?_
   split at h
   ·exact h
   ·exact ob h (fun xs=>elems_mono hm) fun _ h=>h
  | _=>cases h
 | _=>cases h
theorem evSlice_mono {t:Nat} {a x:T} {lo hi:Option T} (h:evSlice P t m lo hi a=some x):evSlice P t m' lo hi a=some x:=by
 unfold evSlice at h ⊢
 split at h
 ·exact h
 ·refine ob h (fun _ h=>h) fun e h=>ob h (fun _ h=>h) fun k h => ?_
  split at h
  ·rename_i hi; rw [hm _ _ hi]; exact h
  ·cases h
 ·exact ob h (fun _ h=>h) fun e h=>ob h (fun _ h=>h) fun k h=>ob h (fun xs=>elems_mono hm) fun _ h=>h
theorem evBin_mono {op:BinOp} {t:Nat} {a b x:T} (h:evBin P m op t a b=some x):evBin P m' op t a b=some x:=by
 unfold evBin at h ⊢
 split at h
 ·exact h
 ·exact h
 ·exact h
 ·exact ob h (fun _ h=>h) fun e h=>ob h (fun x=>bor_mono hm 2 _ x) fun k h=>ob h (fun x=>bor_mono hm 2 _ x) fun _ h=>h
theorem evConvert_mono {src dst:Nat} {a x:T} (h:evConvert P src dst m a=some x):evConvert P src dst m' a=some x:=by
 unfold evConvert at h ⊢
 split at h
 ·exact h
 ·exact h
 ·exact ts h fun h=>ob h (fun _ h=>h) fun e h=>ts h fun h=>ob h (fun xs=>elems_mono hm) fun _ h=>h
theorem evLen_mono {t:Nat} {a:T} {E:Eff} (h:evLen P t m a=some E):evLen P t m' a=some E:=by
 unfold evLen at h ⊢
 split at h
 ·exact h
 ·exact ob h (fun _ h=>h) fun e h=>ob h (fun x=>slLen_mono hm) fun _ h=>h

theorem evLookup_mono {t:Nat} {ok:Bool} {a i x:T} (h:evLookup P t m ok a i=some x):evLookup P t m' ok a i=some x:=by
 unfold evLookup at h ⊢
 split at h
 ·split at h
  ·rename_i hi; rw [hm _ _ hi]; exact h
  ·cases h
 ·cases h
/-- A value. -/
theorem opF_mono {mu:Bool} {ρ:Operand→T} {n n':Nat} {op:Op} {E:Eff} (h:opF P mu ρ m n op=some E) (hu:E.us=[]):opF P mu ρ m' n' op=some E:=by
 cases op with
 | alloc t=>simp only [opF] at h; exact absurd hu (us_alloc h)
 | box t x=>simp only [opF] at h; exact absurd hu (us_box h)
 | buildSlice t len parts=>simp only [opF] at h; exact absurd hu (us_buildSlice h)
 | makeSlice t l c=>simp only [opF] at h; exact absurd hu (us_make h)
 | store t a x =>
  simp only [opF] at h
  obtain ⟨u,_,h⟩:=obind_eq h
  cases h; simp at hu
 | load t a=>simp only [opF] at h ⊢; exact ob h (fun x=>evLoad_mono hm) fun _ h=>h
 | lookup t x i ok=>simp only [opF] at h ⊢; exact ob h (fun x=>evLookup_mono hm) fun _ h=>h
 | makeMap t r =>
  cases r with
  | none=>exact absurd hu (us_makeMap h)
  | some r=>cases h
 | mapUpdate t x i y =>
  simp only [opF] at h
  obtain ⟨u,_,h⟩:=obind_eq h
  cases h; simp at hu
 | insert t x i y =>
  simp only [opF] at h
  obtain ⟨u,_,h⟩:=obind_eq h
  cases h; simp at hu
 | binOp op t x y q=>simp only [opF] at h ⊢; exact ob h (fun x=>evBin_mono hm) fun _ h=>h
 | convert src dst x=>simp only [opF] at h ⊢; exact ob h (fun x=>evConvert_mono hm) fun _ h=>h
 | slice t x lo hi mx =>
  cases mx with
  | none=>simp only [opF] at h ⊢; exact ob h (fun x=>evSlice_mono hm) fun _ h=>h
  | some q =>
   simp only [opF] at h ⊢
   generalize ρ x=X at *
   generalize ρ q=Q at *
   cases X <;> exact h
 | indexAddr t x i=>simp only [opF] at h ⊢; exact ob h (fun x=>evIndexAddr_mono hm) fun _ h=>h
 | unOp o t x=>cases o <;> exact h
 | makeFunc f first cap=>cases f <;> exact h
 | call c =>
  obtain ⟨callee,args,ats⟩:=c
  cases callee with
  | builtin b =>
   simp only [opF] at h ⊢
   unfold evBuiltin at h ⊢
   split at h
   ·split at h
    ·exact evLen_mono hm h
    ·cases h
   ·split at h
    ·obtain ⟨_,h⟩:=tst_eq h
     exact absurd hu (us_append h)
    ·cases h
   ·exact h
   ·exact h
   ·cases h
  | _=>cases h
 | _=>exact h
end
end TL
