/- TL: parts FnsIW, FnsIb0, FnsIb, FnsGDb, FnsGD, TlWrap, FnsFWa, FnsFWb, FnsFWc, FnsFWd. -/
import Derived.Test.YtnimfdpinpggdabGreatDoorGl
import Derived.Test.YtnimfdpinpggdabGreatDoorGe
import Derived.Test.YtnimfdpinpggdabGreatDoorGc
import Derived.Test.YtnimfdpinpggdabGreatDoorShelfB
import Derived.Test.YtnimfdpinpggdabGreatDoorShelfC
import Derived.Stop.LaidErr
import Derived.LaidLaws
import Derived.KernelRfl
import Derived.HandedShaped
import Derived.Test.YtnimfdpinpggdabGreatDoorRows
import Derived.JoinedOf
import Derived.SevenTiedAt
set_option linter.unusedSimpArgs false
set_option linter.unusedVariables false
set_option maxRecDepth 100000
set_option maxHeartbeats 4000000
set_option pp.maxSteps 1500
namespace TL
open Go Go.Proofs
attribute [local simp] marksV storyV codeV Claim.v Place.v Deed.v Desk.v txsV
theorem sayAll_succ {d:Desk} {l:List (List UInt8)} {i:Nat} (h:i<l.length):sayAll d (l.take (i+1))=((deskLine (sayAll d (l.take i)).1 l[i]).1,(sayAll d (l.take i)).2++[(deskLine (sayAll d (l.take i)).1 l[i]).2]):=by
 rw [List.take_succ_eq_append_getElem h,sayAll_snoc]
theorem sayAll_len {d:Desk} {l:List (List UInt8)} (h:deskOk d=true):(sayAll d l).2.length=l.length:=(sayAll_ok l d h).2.2
/-- A row of texts of the caller's own, apart from a part of memory. -/
def RowX (m:Mem) (R:T) (l:List (List UInt8)) (lo hi b n:Nat):Prop:=(R=.nil∧l=[])∨∃ id,R=.sv id 0 l.length∧m id=some (.box 9 1 (txsT l))∧b≤id∧id<n∧(id<lo∨hi≤id)
theorem RowX.cell {m:Mem} {R:T} {l:List (List UInt8)} {lo hi b n:Nat} (h:RowX m R l lo hi b n):R.cell=true∧R.cells=[R]:=by
 rcases h with ⟨rfl,_⟩ | ⟨id,rfl,_⟩ <;> exact ⟨rfl,rfl⟩
theorem RowX.keep {m m':Mem} {R:T} {l:List (List UInt8)} {lo hi b n n':Nat} (h:RowX m R l lo hi b n) (hn:n≤n') (hk:∀ id,R=.sv id 0 l.length→m' id=m id):RowX m' R l lo hi b n':=by
 rcases h with h | ⟨id,h1,h2,h3,h4,h5⟩
 ·exact .inl h
 ·exact .inr ⟨id,h1,by rw [hk id h1,h2],h3,by omega,h5⟩
theorem RowX.bor {m:Mem} {R:T} {l:List (List UInt8)} {lo hi b n:Nat} (h:RowX m R l lo hi b n) (d:Nat):TL.bor true m (d+1) R=some (txsV l):=by
 rcases h with ⟨rfl,rfl⟩ | ⟨id,rfl,h2,_⟩
 ·rfl
 ·exact bor_txs d h2
def PostXS (D:Desk) (l:List (List UInt8)) (t:T) (m':Mem) (n':Nat):Prop:=∃ (sn P R:T) (lo hi:Nat),t=.tup [dT D sn P,R]∧OwnD m' lo hi sn P D∧hi≤n'∧RowX m' R l lo hi 0 n'
theorem postXS_pure {D:Desk} {l:List (List UInt8)} {t:T} {m':Mem} {n':Nat} (h:PostXS D l t m' n'):bor true m' 5 t=some (.tup [D.v,txsV l]):=by
 obtain ⟨sn,P,R,lo,hi,rfl,ho,_,hr⟩:=h
 have h1:=ho.bor.1
 have h2:=ho.bor.2
 have h3:=hr.bor 3
 simp [dT,h1,h2,h3]
noncomputable def Idy (d:Desk) (l:List (List UInt8)) (e:Nat) (s:S):Prop:=∃ (i lo hi id:Nat) (sn P:T),s.tm 2=.ptr 0 0∧s.tm 4=.ptr 1 0∧s.tm 6=.sv id 0 i∧s.tm 23=.v (.sl (l.map V.str))∧s.tm 24=.v (.int .i64 l.length)∧s.tm 25=.v (.int .i64 i)∧i≤l.length∧2≤s.n ∧
 s.m 0=some (.box 28 3 [.v (.int .i64 (sayAll d (l.take i)).1.now.people),sn,P])∧s.m 1=some (.box 28 3 [.v (.int .i64 0),.nil,.nil])∧OwnD s.m lo hi sn P (sayAll d (l.take i)).1∧2≤lo∧hi≤s.n ∧
 s.m id=some (.box 9 1 (txsT (sayAll d (l.take i)).2))∧2≤id∧id<s.n∧(id<lo∨hi≤id)∧s.mu=true∧(e=1→i=l.length)
theorem deskSay_k (d:Desk) (l:List (List UInt8)) (hd:d.small) (hw:∀ a ∈ l,a.length≤1000000000):FnS Tryz.prog 14 (fun _=>none) 0 [.v d.v,.v (txsV l)] (PostXS (deskSay d l).1 (deskSay d l).2):=by
 have hok:=deskOk_fn d (by have:=hd.2.1; omega) (by have:=hd.1.1; omega) (fun p hp=>by have:=(hd.2.2 p hp).1; omega)
 have hk:=ft (deskOk d)
 rcases hk with hk | hk
 ·have e:deskSay d l=(noDeskV,[]):=if_neg (by simp [hk])
  rw [e]
  rw [hk] at hok
  refine FS (rs:=[.cell 4 28,.tmp 5]) true Tryz.func14 ?_
  simp -dsimp [txsV]
  refine cl hok ?_
  simp -dsimp [noDeskV]
  exact ⟨.nil,.nil,.nil,0,0,rfl,OwnD.none (Nat.zero_le _),Nat.zero_le _,.inl ⟨rfl,rfl⟩⟩
 rw [hk] at hok
 by_cases hl:l.length≤40
 case neg =>
  have e:deskSay d l=(noDeskV,[]):=if_neg (by simp [hl])
  have hl':(40:Int)<l.length:=by omega
  have hl'':40<l.length:=by omega
  rw [e]
  refine FS (rs:=[.cell 4 28,.tmp 5]) true Tryz.func14 ?_
  simp -dsimp [txsV]
  refine cl hok ?_
  simp -dsimp [noDeskV,hl',hl'']
  exact ⟨.nil,.nil,.nil,0,0,rfl,OwnD.none (Nat.zero_le _),Nat.zero_le _,.inl ⟨rfl,rfl⟩⟩
 have e:deskSay d l=sayAll d l:=if_pos ⟨hk,hl⟩
 have hl':¬(40:Int)<l.length:=by omega
 have hl'':¬40<l.length:=by omega
 rw [e]
 have hcv:=fun m n=>copyDesk_k d hd hk m n
 refine FS (rs:=[.cell 4 28,.tmp 5]) true Tryz.func14 ?_
 simp -dsimp [txsV]
 refine cl hok ?_
 simp -dsimp [hl',hl'',nes]
 refine callL_ (vs:=[d.v]) (hcv _ _) (by simp -dsimp) ?_
 rintro t m1 n1 ⟨hn1,hout,sn,P,rfl,hown⟩
 have k0:=hout 0 (by omega)
 have k1:=hout 1 (by omega)
 have k2:=hout 2 (by omega)
 simp -dsimp [nes] at k0 k1 k2
 have f0:=far (show 0<n1 by omega)
 have f1:=far (show 1<n1 by omega)
 have hfc:=hown.facts
 have hc:=hfc.1
 have hcs:=hfc.2.1
 have hcP:=hfc.2.2.1
 have hcsP:=hfc.2.2.2
 clear hfc
 simp -dsimp [dT,f0,f1,k0,k1,hc,hcs,hcP,hcsP,nes]
 refine twp_loopC (Idy d l 0) (fun s=>l.length-natOf (s.tm 25)) (Idy d l 1) ?_ ?_ ?_
 ·exact ⟨0,3,n1,2,sn,P,by simp -dsimp,by simp -dsimp,by simp -dsimp,by simp -dsimp,by simp -dsimp,by simp -dsimp,by omega,(by simp -dsimp <;> omega),by simp -dsimp [sayAll],by simp -dsimp [k1],hown.keep (Nat.le_refl _) (Nat.le_refl _) (fun j j1 j2=>by simp -dsimp [show ¬j=0 by omega]),by omega,(by simp -dsimp <;> omega),by simp -dsimp [k2,sayAll,txsT],by omega,(by simp -dsimp <;> omega),by omega,by simp -dsimp,by simp⟩
 ·rintro s ⟨i,lo,hi',id,sn,P,t2,t4,t6,t23,t24,t25,hi,hn,m0,m1,hown,hlo,hhi,mid,hid2,hidn,hidd,hmu,hend⟩
  by_cases hlt:i<l.length
  case neg =>
   simp -dsimp [t24,t25,hlt]
   exact ⟨i,lo,hi',id,sn,P,by simp -dsimp [t2],by simp -dsimp [t4],by simp -dsimp [t6],by simp -dsimp [t23],by simp -dsimp [t24],by simp -dsimp [t25],hi,by simp -dsimp; omega,by simp -dsimp [m0],by simp -dsimp [m1],hown,hlo,by simp -dsimp; omega,by simp -dsimp [mid],hid2,by simp -dsimp; omega,hidd,by simp -dsimp [hmu],fun _=>by omega⟩
  have hget:(l.map V.str)[i]? = some (.str l[i]):=by simp [hlt]
  have wi:IntKind.wrap .i64 ((i:Int)+1)=((i+1:Nat):Int):=by rw [w64 (by omega) (by omega)]; omega
  have hmu1:l.length-(i+1)<l.length-i:=by omega
  have f0:=far (show 0<s.n by omega)
  have f1:=far (show 1<s.n by omega)
  have fid:=far hidn
  have hD:=(sayAll_ok (l.take i) d hk).1
  have hcall:=deskLine_k (sayAll d (l.take i)).1 l[i] (desk_fine hD).1 (hw _ (List.getElem_mem _))
  have hs:=sayAll_succ (d:=d) hlt
  have hlen:(sayAll d (l.take i)).2.length=i:=by rw [sayAll_len hk]; simp; omega
  clear hD
  generalize deskLine (sayAll d (l.take i)).1 l[i]=E at *
  generalize sayAll d (l.take i)=R at *
  obtain ⟨E0,A⟩:=E
  obtain ⟨⟨⟨D1,D2⟩,D3⟩,O⟩:=R
  generalize hx:l[i]=a at *
  simp only at m0 hcall hs hlen mid
  have hbo:=fun x=>(hown.keep (m':=updM s.m s.n x) (Nat.le_refl _) (Nat.le_refl _) fun j j1 j2=>by simp [show ¬j=s.n by omega]).bor
  have hbo0:=hown.bor
  have b1:=hbo0.1
  have b2:=hbo0.2
  clear hbo hbo0
  simp only at b1 b2
  have hol:(txsT O).length=i:=by rw [txsT_length,hlen]
  have hsn:txsT (O++[A])=txsT O++[.v (.str A)]:=by rw [txsT_append]; rfl
  have htk:(txsT O).take i=txsT O:=List.take_of_length_le (by omega)
  have bb:(i+1) * 16≤140737488355328:=by omega
  obtain ⟨c1,hc1⟩:∃ c1,txsT O=c1:=⟨_,rfl⟩
  rw [hc1] at mid hol hsn htk
  simp -dsimp [t2,t23,t24,t25,hlt,hget,m0,f0,f1,nes,hx]
  refine callK_ (vs:=[(⟨⟨D1,D2⟩,D3⟩:Desk).v,.str a]) (D:=E0) (x:=.str A) rfl hcall (by simp -dsimp [b1,b2]) ?_
  intro sn2 P2 m2 n2 hn2 hout2 hown2
  have k0:=hout2 0 (by omega)
  have k1:=hout2 1 (by omega)
  have kid:=hout2 id (by omega)
  rw [m0] at k0
  rw [m1] at k1
  rw [mid] at kid
  have hfc2:=hown2.facts
  have hc2:=hfc2.1
  have hcs2:=hfc2.2.1
  have hcP2:=hfc2.2.2.1
  have hcsP2:=hfc2.2.2.2
  clear hfc2
  have g0:=far (show 0<n2 by omega)
  have g1:=far (show 1<n2 by omega)
  have gid:=far (show id<n2 by omega)
  have id0:¬id=0:=by omega
  have id0':¬0=id:=by omega
  have id1:¬id=1:=by omega
  have id1':¬1=id:=by omega
  simp -dsimp [dT,t2,t6,t25,k0,k1,kid,f0,f1,g0,g1,gid,id0,id0',id1,id1',hol,htk,bb,hmu,nes,nes8,wi,hmu1,hc2,hcs2,hcP2,hcsP2]
  refine st_out (I:=Idy d l 0) fun s' ht hm' hn' hu' => ?_
  have a2:=ht 2
  have a4:=ht 4
  have a6:=ht 6
  have a23:=ht 23
  have a24:=ht 24
  have a25:=ht 25
  simp -dsimp [t2,t4,t23,t24] at a2 a4 a6 a23 a24 a25 hm' hn' hu'
  clear ht
  refine ⟨i+1,s.n,n2,_,sn2,P2,a2,a4,a6,a23,a24,a25,by omega,by omega, ?_, ?_, ?_,by omega,by omega, ?_, ?_, ?_, ?_,by rw [hu',hmu],by simp⟩
  ·rw [hs,hm']; simp [g0,id0,id0',nes]
  ·rw [hm']; simp [k1,g1,id1,id1',nes]
  ·rw [hs,hm']
   exact hown2.keep (Nat.le_refl _) (Nat.le_refl _) fun j j1 j2=>by simp [show ¬j=0 by omega,show ¬j=id by omega,far j2]
  ·rw [hs,hm',hsn]; simp [nes,gid]
  ·omega
  ·omega
  ·omega
 ·rintro s ⟨i,lo,hi',id,sn,P,t2,t4,t6,t23,t24,t25,hi,hn,m0,m1,hown,hlo,hhi,mid,hid2,hidn,hidd,hmu,hend⟩
  have:=hend rfl
  subst this
  rw [List.take_length] at m0 hown mid
  have hlen:=sayAll_len (l:=l) hk
  have hfc:=hown.facts
  have hc:=hfc.1
  have hcs:=hfc.2.1
  have hcP:=hfc.2.2.1
  have hcsP:=hfc.2.2.2
  clear hfc
  generalize sayAll d l=R at *
  obtain ⟨⟨⟨D1,D2⟩,D3⟩,O⟩:=R
  simp -dsimp [t2,t4,t6,m0,m1,hc,hcs,hcP,hcsP]
  refine ⟨sn,P,.sv id 0 O.length,lo,hi', ?_,hown.keep (Nat.le_refl _) (Nat.le_refl _) fun j j1 j2=>by simp [show ¬j=1 by omega],by omega,.inr ⟨id,rfl, ?_,Nat.zero_le _,by omega,hidd⟩⟩
  ·simp only at hlen; rw [hlen]; rfl
  ·simp [show ¬id=1 by omega,mid]
theorem deskSayP_fn (d:Desk) (l:List (List UInt8)) (hd:d.small) (hw:∀ a ∈ l,a.length≤1000000000):FnZ Tryz.prog 14 [d.v,txsV l] (.tup [(deskSay d l).1.v,txsV (deskSay d l).2]) :=
 FnZ_own (vs:=[d.v,txsV l]) (deskSay_k d l hd hw) 5 fun _ _ _ h=>postXS_pure h
noncomputable def Isy (d:Desk) (l:List (List UInt8)) (q:Nat) (e:Nat) (s:S):Prop:=∃ i id:Nat,s.tm 1=.v (.sl (l.map V.str))∧s.tm 4=.ptr 1 0∧s.tm 7=.ptr q 0∧s.tm 6=.loc id∧s.tm 8=.v (.int .i64 i)∧i≤l.length∧q<s.n∧id<s.n∧¬id=q∧2≤id∧s.mu=false ∧
 s.m id=some (.arr 9 ((sayAll d (l.take i)).2.map V.str)) ∧
 s.m q=some (.box 28 3 [.v (.int .i64 (sayAll d (l.take i)).1.now.people),.v (storyV (sayAll d (l.take i)).1.now.story),.v (.sl ((sayAll d (l.take i)).1.past.map Place.v))])∧s.m 1=some (.box 28 3 [.v (.int .i64 0),.nil,.nil])∧(e=1→i=l.length)
theorem deskSayS_fn (d:Desk) (l:List (List UInt8)) (hd:d.small) (hf:d.fit) (hw:∀ a ∈ l,a.length≤1000000000):FnZ Tryz.prog 15 [d.v,txsV l] (.tup [(deskSay d l).1.v,txsV (deskSay d l).2]):=by
 have hok:=deskOkS_fn d hd hf
 have hk:=ft (deskOk d)
 rcases hk with hk | hk
 ·have e:deskSay d l=(noDeskV,[]):=if_neg (by simp [hk])
  rw [e]
  rw [hk] at hok
  refine FZ (rs:=[.cell 4 28,.tmp 5]) false Tryz.func15 ?_
  simp -dsimp [txsV,nes]
  refine cl hok ?_
  simp -dsimp [noDeskV,nes]
 rw [hk] at hok
 by_cases hl:l.length≤40
 case neg =>
  have e:deskSay d l=(noDeskV,[]):=if_neg (by simp [hl])
  have hl':(40:Int)<l.length:=by omega
  have hl'':40<l.length:=by omega
  rw [e]
  refine FZ (rs:=[.cell 4 28,.tmp 5]) false Tryz.func15 ?_
  simp -dsimp [txsV,nes]
  refine cl hok ?_
  simp -dsimp [noDeskV,hl',hl'',nes]
 have e:deskSay d l=sayAll d l:=if_pos ⟨hk,hl⟩
 have hl':¬(40:Int)<l.length:=by omega
 have hl'':¬40<l.length:=by omega
 rw [e]
 have hcv:=fun m n=>l15Copy_v d hd m n
 refine FZ (rs:=[.cell 4 28,.tmp 5]) false Tryz.func15 ?_
 simp -dsimp [txsV,nes]
 refine cl hok ?_
 simp -dsimp [hl',hl'',nes]
 refine callL_ (vs:=[d.v]) (hcv _ _) (by simp -dsimp) ?_
 rintro t m1 q ⟨hn1,⟨x,rfl,rfl⟩,rfl⟩
 have q1:¬q=1:=by omega
 have f0:=far (show 0<q by omega)
 have f1:=far (show 1<q by omega)
 have f2:=far (show 2<q by omega)
 simp -dsimp [f0,f1,f2,nes]
 refine twp_loopC (Isy d l q 0) (fun s=>l.length-natOf (s.tm 8)) (Isy d l q 1) ?_ ?_ ?_
 ·exact ⟨0,2,by simp -dsimp,by simp -dsimp,by simp -dsimp,by simp -dsimp,by simp -dsimp,by omega,(by simp -dsimp <;> omega),(by simp -dsimp <;> omega),by omega,by omega,by simp -dsimp,by simp -dsimp [sayAll,f2],by simp -dsimp [sayAll],by simp -dsimp [f1,nes],by simp⟩
 ·rintro s ⟨i,id,t1,t4,t7,t6,t8,hi,hn,hidn,hidq,hid2,hmu,mid,m0,m1,hend⟩
  by_cases hlt:i<l.length
  case neg =>
   simp -dsimp [t1,t8,hlt]
   exact ⟨i,id,by simp -dsimp [t1],by simp -dsimp [t4],by simp -dsimp [t7],by simp -dsimp [t6],by simp -dsimp [t8],hi,by simp -dsimp; omega,by simp -dsimp; omega,hidq,hid2,by simp -dsimp [hmu],by simp -dsimp [mid],by simp -dsimp [m0],by simp -dsimp [m1],fun _=>by omega⟩
  have hget:(l.map V.str)[i]? = some (.str l[i]):=by simp [hlt]
  have wi:IntKind.wrap .i64 ((i:Int)+1)=((i+1:Nat):Int):=by rw [w64 (by omega) (by omega)]; omega
  have hmu1:l.length-(i+1)<l.length-i:=by omega
  have f0:=far (show q<s.n by omega)
  have f1:=far (show 1<s.n by omega)
  have fid:=far hidn
  have hD:=(sayAll_ok (l.take i) d hk).1
  have hcall:=deskLineS_fn (sayAll d (l.take i)).1 l[i] (desk_fine hD).1 (desk_fine hD).2.1 (hw _ (List.getElem_mem _))
  have hs:=sayAll_succ (d:=d) hlt
  have hlen:(sayAll d (l.take i)).2.length=i:=by rw [sayAll_len hk]; simp; omega
  clear hD
  generalize deskLine (sayAll d (l.take i)).1 l[i]=E at *
  generalize sayAll d (l.take i)=R at *
  obtain ⟨⟨⟨E1,E2⟩,E3⟩,A⟩:=E
  obtain ⟨⟨⟨D1,D2⟩,D3⟩,O⟩:=R
  generalize hx:l[i]=a at *
  simp only at m0 hcall hs hlen mid
  have hol:(O.map V.str).length=i:=by rw [List.length_map,hlen]
  have hsn:(O++[A]).map V.str=O.map V.str++[.str A]:=by simp
  have bb:(i+1) * 16≤140737488355328:=by omega
  have q1:¬1=id:=by omega
  have q2:¬id=1:=by omega
  have q3:¬q=id:=fun h=>hidq h.symm
  obtain ⟨c1,hc1⟩:∃ c1,O.map V.str=c1:=⟨_,rfl⟩
  rw [hc1] at mid hol hsn
  have bb2:(c1.length+1) * 16≤140737488355328:=by omega
  have fin:∀ (s':S) (id':Nat),s'.tm 1=.v (.sl (l.map V.str))→s'.tm 4=.ptr 1 0→s'.tm 7=.ptr q 0→s'.tm 6=.loc id'→s'.tm 8=.v (.int .i64 (i+1:Nat))→q<s'.n→id'<s'.n→¬id'=q→2≤id'→s'.mu=false→s'.m id'=some (.arr 9 (c1++[.str A]))→s'.m q=some (.box 28 3 [.v (.int .i64 E1),.v (.sl (E2.map Claim.v)),.v (.sl (E3.map Place.v))])→s'.m 1=some (.box 28 3 [.v (.int .i64 0),.nil,.nil])→Isy d l q 0 s' :=
   fun s' id' a1 a4 a7 a6 a8 an aid aq a2 amu am aq0 am1=>⟨i+1,id',a1,a4,a7,a6,a8,by omega,an,aid,aq,a2,amu,by rw [hs,hsn]; exact am,by rw [hs]; exact aq0,am1,by simp⟩
  have hq1':¬1=q:=by
   intro h; subst h; rw [m0] at m1; simp at m1
  have hq1:¬q=1:=fun h=>hq1' h.symm
  simp -dsimp [t1,t8,hlt]
  refine twp_drawT (.run [0,1,2,3,4] (.alt (.run [5,6,7,8,9,10,11] .done) (.run [9,5,6,7,8,10,11] .done))) [q] (List.replicate 12 [0]) (List.replicate 12 [0]) (by kernel_rfl) (by kernel_rfl) (by kernel_rfl) (by kernel_rfl) ?_
  simp -dsimp [t1,t7,t8,hlt,hget,m0,f0,f1,nes,hx]
  refine ordT_both ?_ ?_
  ·simp -dsimp [t1,t7,t8,hlt,hget,m0,f0,f1,nes,hx]
   refine cl hcall ?_
   simp -dsimp [t1,t6,t7,t8,m0,mid,f0,f1,fid,hidq,q1,q2,q3,hol,bb,bb2,hmu,nes,nes8,wi,hmu1]
   refine st_out (I:=Isy d l q 0) fun s' ht hm' hn' hu' => ?_
   have a1:=ht 1
   have a4:=ht 4
   have a6:=ht 6
   have a7:=ht 7
   have a8:=ht 8
   simp -dsimp [t1,t4,t7] at a1 a4 a6 a7 a8 hm' hn' hu'
   clear ht
   exact fin s' _ a1 a4 a7 a6 a8 (by omega) (by omega) (by omega) (by omega) (by rw [hu',hmu]) (by rw [hm']; simp [nes,nes8]) (by rw [hm']; simp [f0,q3,nes]) (by rw [hm']; simp [f1,q1,hq1',m1])
  ·simp -dsimp [t1,t7,t8,hlt,hget,m0,f0,f1,nes,hx]
   refine cl hcall ?_
   simp -dsimp [t1,t6,t7,t8,m0,mid,f0,f1,fid,hidq,q1,q2,q3,hol,bb,bb2,hmu,nes,nes8,wi,hmu1]
   refine st_out (I:=Isy d l q 0) fun s' ht hm' hn' hu' => ?_
   have a1:=ht 1
   have a4:=ht 4
   have a6:=ht 6
   have a7:=ht 7
   have a8:=ht 8
   simp -dsimp [t1,t4,t7] at a1 a4 a6 a7 a8 hm' hn' hu'
   clear ht
   exact fin s' _ a1 a4 a7 a6 a8 (by omega) (by omega) (by omega) (by omega) (by rw [hu',hmu]) (by rw [hm']; simp [nes,nes8]) (by rw [hm']; simp [f0,q3,nes]) (by rw [hm']; simp [f1,q1,hq1',m1])
 ·rintro s ⟨i,id,t1,t4,t7,t6,t8,hi,hn,hidn,hidq,hid2,hmu,mid,m0,m1,hend⟩
  have:=hend rfl
  subst this
  rw [List.take_length] at m0 mid
  generalize sayAll d l=R at *
  obtain ⟨⟨⟨D1,D2⟩,D3⟩,O⟩:=R
  have q1:¬1=id:=by omega
  have q2:¬id=1:=by omega
  simp -dsimp [t4,t6,t7,m0,m1,mid,q1,q2,txsV]
end TL

namespace TL
open Go Go.Proofs
attribute [local simp] marksV storyV codeV Claim.v Place.v Desk.v Deed.v
theorem take_txs {a b:List (List UInt8)} {i:Nat} (ha:i<a.length) (hb:i<b.length) (h:a.take i=b.take i) (he:a[i]=b[i]):a.take (i+1)=b.take (i+1):=by
 rw [List.take_succ_eq_append_getElem ha,List.take_succ_eq_append_getElem hb,h,he]
def IsaX (a b:List (List UInt8)) (e:Nat) (s:S):Prop:=∃ i:Nat,s.tm 0=.v (txsV a)∧s.tm 1=.v (txsV b)∧s.tm 5=.v (.int .i64 i)∧i≤a.length∧a.take i=b.take i∧(e=1→i=a.length)
theorem sameTexts_fn (a b:List (List UInt8)) (hl:a.length≤1048576):FnZ Tryz.prog 16 [txsV a,txsV b] (.bool (decide (a=b))):=by
 refine FZ (rs:=[.tmp 4]) false Tryz.func16 ?_
 by_cases hn:a.length=b.length
 case neg =>
  have e:decide (a=b)=false:=by simp; rintro rfl; exact hn rfl
  have hn':¬(a.length:Int)=b.length:=by omega
  simp -dsimp [hn,hn',e,txsV]
 simp -dsimp [hn,txsV]
 refine twp_loopC (IsaX a b 0) (fun s=>a.length-natOf (s.tm 5)) (IsaX a b 1) ?_ ?_ ?_
 ·exact ⟨0,by simp -dsimp [txsV],by simp -dsimp [txsV],by simp -dsimp,by omega,by simp,by simp⟩
 ·rintro s ⟨i,h0,h1,h5,hi,htk,hend⟩
  by_cases hlt:i<a.length
  case neg =>
   have hlt2:¬i<b.length:=by omega
   simp -dsimp [h0,h5,hlt,hlt2,hn,txsV]
   exact ⟨i,by simp -dsimp [h0,txsV],by simp -dsimp [h1,txsV],by simp -dsimp [h5],hi,htk,fun _=>by omega⟩
  have hlt2:i<b.length:=by omega
  have hgeta:(a.map V.str)[i]? = some (.str a[i]):=by simp [hlt]
  have hgetb:(b.map V.str)[i]? = some (.str b[i]):=by simp [hlt2]
  have wi:IntKind.wrap .i64 ((i:Int)+1)=((i+1:Nat):Int):=by rw [w64 (by omega) (by omega)]; omega
  have hmu:a.length-(i+1)<a.length-i:=by omega
  have hmu2:b.length-(i+1)<b.length-i:=by omega
  simp -dsimp [h0,h5,hlt,hlt2,hn,txsV]
  refine twd (List.range 9) [] (List.replicate 9 []) (List.replicate 9 []) ?_
  by_cases hq:a[i]=b[i]
  ·have htk2:=take_txs hlt hlt2 htk hq
   simp -dsimp [List.range_succ,h0,h1,h5,hlt,hlt2,hgeta,hgetb,hq,wi,hmu,hmu2,txsV]
   exact ⟨i+1,by simp -dsimp [h0,txsV],by simp -dsimp [h1,txsV],by simp -dsimp,by omega,htk2,by simp⟩
  ·have e:decide (a=b)=false:=by
    simp; rintro rfl; exact hq rfl
   simp -dsimp [List.range_succ,h0,h1,h5,hlt,hlt2,hgeta,hgetb,hq,e,txsV]
 ·rintro s ⟨i,h0,h1,h5,hi,htk,hend⟩
  have:=hend rfl
  subst this
  rw [List.take_length,hn,List.take_length] at htk
  have e:decide (a=b)=true:=by simpa using htk
  simp -dsimp [e]
def SomeDeskLines (x:V):Prop:=∃ (d:Desk) (l:List (List UInt8)),d.small∧d.fit∧l.length≤41∧(∀ a ∈ l,a.length≤2000)∧x=.tup [d.v,txsV l]
theorem noTexts_bor {mm:Mem} {d:Desk} {id:Nat} (h:mm id=some (.box 9 1 (List.replicate 41 (T.v (.str []))))):bor true mm 4 (.tup [.agg [.v (.int .i64 d.now.people),.v (.sl (d.now.story.map Claim.v)),.v (.sl (d.past.map Place.v))],.sv id 0 41])=some (.tup [d.v,txsV (List.replicate 41 [])]):=by
 have hb:=bor_txs (l:=List.replicate 41 []) 2 (m:=mm) (i:=id) (e:=9) (by rw [h]; simp [txsT])
 rw [List.length_replicate] at hb
 simp [hb]
def Idl (n:Nat) (q n2:Nat) (bs:List UInt8) (d:Desk) (m0:Mem) (p2:Nat) (e:Nat) (s:S):Prop:=∃ (c id p':Nat) (l:List (List UInt8)),s.tm 2=.ptr n 0∧s.tm 4=.ptr (n+1) 0∧s.tm 5=.ptr n2 0∧s.tm 6=.sv id 0 l.length∧s.tm 7=.v (.int .i64 c)∧s.mu=true∧n2<id∧id<s.n ∧
 s.m id=some (.box 9 1 (txsT l))∧l.length+c≤5∧(∀ a ∈ l,a.length≤2000)∧p2≤p'∧p'+200 * c≤p2+1200∧s.m (n+1)=some (rdB bs p')∧s.m n2=some (.box 28 3 [.v (.int .i64 d.now.people),.v (.sl (d.now.story.map Claim.v)),.v (.sl (d.past.map Place.v))]) ∧
 s.m n=some (.box 28 3 [.v (.int .i64 0),.nil,.nil])∧(∀ j,j<n→s.m j=m0 j)∧(e=1→c=0)
theorem drawDeskSay_z (bs:List UInt8) (m:Mem) (n:Nat):FnS Tryz.prog 13 m n [.v (codeV bs)] (Drawn SomeDeskLines m n):=by
 refine Drawn_of ⟨_,Tryz.func13,rfl,rfl⟩ fun hfr => ?_
 refine FS (rs:=[.cell 2 28,.tmp 3]) true Tryz.func13 ?_
 simp -dsimp
 refine callS_ (open_at bs _ _) ?_
 rintro t m1 n1 ⟨rfl,rfl,rfl⟩
 simp -dsimp
 refine callS_ (desk_z (bs.take 2000) 0 (by omega) 12 (by omega) (by omega) _ _ _ (by omega) (by simp)) ?_
 rintro t m2 n2 ⟨hn2,⟨x,⟨d,s1,s2,s3,rfl⟩,rfl⟩,p2,hp1,hp2,rfl⟩
 have f0:=far (show n<n2 by omega)
 have f1:=far (show n+1<n2 by omega)
 have z0:¬n2=n+1:=by omega
 have z1:¬n2=n:=by omega
 simp -dsimp [f0,f1,z0,z1,nes]
 refine callS_ (pick_at (bs.take 2000) p2 (by omega) _ _ _ (n+1) (by simp [f0,f1,z0,z1,nes])) ?_
 rintro t m3 n3 ⟨hn3,⟨r,rfl,hr0,hr1⟩,rfl⟩
 have hr1:=hr1 (by decide)
 obtain ⟨r,rfl⟩:=Int.eq_ofNat_of_zero_le hr0
 have g0:=far (show n<n3 by omega)
 have g1:=far (show n+1<n3 by omega)
 have g2:=far (show n2<n3 by omega)
 simp -dsimp [f0,f1,z0,z1,g0,g1,g2,nes]
 refine twp_loopC (Idl n 0 n2 (bs.take 2000) d m (p2+1) 0) (fun s=>natOf (s.tm 7)) (Idl n 0 n2 (bs.take 2000) d m (p2+1) 1) ?_ ?_ ?_
 ·refine ⟨r,n2+1+1,p2+1,[],by simp -dsimp,by simp -dsimp,by simp -dsimp,by simp -dsimp,by simp -dsimp,by simp -dsimp,by omega,(by simp -dsimp <;> omega), ?_,by simp; omega,by simp,by omega,by omega, ?_, ?_, ?_,fun j j1 => ?_,by simp⟩
  ·simp -dsimp [nes,txsT,show ¬n2+1=n by omega]
  ·simp -dsimp
  ·simp -dsimp [z0,nes]
  ·simp -dsimp [nes,f0,f1,show ¬n2+1=n by omega]
  ·simp -dsimp [far j1,show ¬j=n by omega,show ¬j=n+1 by omega,show ¬j=n2 by omega,show ¬j=n2+1+1 by omega]
 ·rintro s ⟨c,id,p',l,t2,t4,t5,t6,t7,hmu,hid0,hid,mid,hlc,hw,hq0,hq1,mrd,mdk,mz,hout,hend⟩
  by_cases hc:0<c
  case neg =>
   have hc0:c=0:=by omega
   simp -dsimp [t7,hc,hc0]
   exact ⟨c,id,p',l,by simp -dsimp [t2],by simp -dsimp [t4],by simp -dsimp [t5],by simp -dsimp [t6],by simp -dsimp [t7],by simp -dsimp [hmu],hid0,by simp -dsimp; omega,by simp -dsimp [mid],hlc,hw,hq0,hq1,by simp -dsimp [mrd],by simp -dsimp [mdk],by simp -dsimp [mz],fun j j1=>by simp -dsimp [hout j j1],fun _=>hc0⟩
  have h1:=far hid
  have h2:=far (show n+1<s.n by omega)
  have h3:=far (show n2<s.n by omega)
  have h4:=far (show n<s.n by omega)
  have wc:IntKind.wrap .i64 ((c:Int)-1)=((c-1:Nat):Int):=by rw [w64 (by omega) (by omega)]; omega
  have hmu1:c-1<c:=by omega
  have b1:(l.length+1) * 16≤140737488355328:=by omega
  have e1:¬id=n+1:=by omega
  have e2:¬n+1=id:=by omega
  have e3:¬id=n2:=by omega
  have e4:¬n2=id:=by omega
  have e5:¬id=n:=by omega
  have e6:¬n=id:=by omega
  simp -dsimp [t4,t5,t6,t7,mdk,hc]
  refine callS_ (line_zX (bs.take 2000) p' (by omega) d.now s3 _ (by rfl) _ _ (n+1) (by omega) (by simp [mrd])) ?_
  rintro t m4 n4 ⟨hn4,⟨x,⟨w,hwl,rfl⟩,rfl⟩,p4,hp5,hp6,rfl⟩
  have k1:=far (show id<n4 by omega)
  have k2:=far (show n+1<n4 by omega)
  have k3:=far (show n2<n4 by omega)
  have k4:=far (show n<n4 by omega)
  have hsn:txsT (l++[w])=txsT l++[.v (.str w)]:=by rw [txsT_append]; rfl
  have hol:=txsT_length l
  have htk:(txsT l).take l.length=txsT l:=List.take_of_length_le (by simp)
  obtain ⟨c1,hc1⟩:∃ c1,txsT l=c1:=⟨_,rfl⟩
  rw [hc1] at mid hsn hol htk
  simp -dsimp [t4,t5,t6,t7,mid,mdk,hmu,e1,e2,e3,e4,e5,e6,k1,k2,k3,k4,b1,wc,hmu1,hol,htk,nes]
  refine st_out (I:=Idl n 0 n2 (bs.take 2000) d m (p2+1) 0) fun s' ht hm' hn' hu' => ?_
  have a2:=ht 2
  have a4:=ht 4
  have a5:=ht 5
  have a6:=ht 6
  have a7:=ht 7
  simp -dsimp [t2,t4,t5,wc] at a2 a4 a5 a6 a7 hm' hn' hu'
  clear ht
  refine ⟨c-1,_,p4,l++[w],a2,a4,a5,by simpa using a6,a7,by rw [hu',hmu],by omega,by omega, ?_,by simp; omega,fun a ha => ?_,by omega,by omega, ?_, ?_, ?_,fun j j1 => ?_,by simp⟩
  ·rw [hsn]; simp [hm',nes]
  ·rcases List.mem_append.1 ha with ha | ha
   ·exact hw a ha
   ·rw [List.mem_singleton.1 ha]; exact hwl
  ·simp [hm',e1,e2,k2,show ¬n=n4 by omega]
  ·simp [hm',e3,e4,k3,z0,mdk]
  ·simp [hm',e5,e6,k4,mz,show ¬n=n4 by omega,show ¬n=n4+1 by omega]
  ·simp [hm',show ¬j=id by omega,far (show j<n4 by omega),show ¬j=n+1 by omega,hout j j1]
 ·rintro s ⟨c,id,p',l,t2,t4,t5,t6,t7,hmu,hid0,hid,mid,hlc,hw,hq0,hq1,mrd,mdk,mz,hout,hend⟩
  have h1:=far hid
  have h2:=far (show n+1<s.n by omega)
  have h3:=far (show n2<s.n by omega)
  have h4:=far (show n<s.n by omega)
  have e1:¬id=n+1:=by omega
  have e2:¬n+1=id:=by omega
  have e3:¬id=n2:=by omega
  have e4:¬n2=id:=by omega
  have e5:¬id=n:=by omega
  have e6:¬n=id:=by omega
  simp -dsimp [t4]
  refine callS_ (odd_at (bs.take 2000) p' (by omega) 30 (by omega) _ _ (n+1) (by simp [mrd])) ?_
  rintro t m5 n5 ⟨hn5,⟨b,rfl,_⟩,p5,hp7,hp8,rfl⟩
  have k1:=far (show id<n5 by omega)
  have k2:=far (show n+1<n5 by omega)
  have k3:=far (show n2<n5 by omega)
  have k4:=far (show n<n5 by omega)
  cases b with
  | true =>
   simp -dsimp [t2,t5,mdk,mz,z0,e5,e6,k1,k2,k3,k4,nes]
   refine ⟨by omega,⟨.tup [d.v,txsV (List.replicate 41 [])], ?_,d,List.replicate 41 [],s1,s2,by simp,fun a ha => ?_,rfl⟩,fun j j1 => ?_⟩
   ·refine noTexts_bor (d:=d) (id:=n5) ?_
    simp [show n≤n5 by omega,nes,show ¬n5=n by omega]
   ·rw [List.eq_of_mem_replicate ha]; simp
   ·simp [far j1,show ¬j=n by omega,show ¬j=n+1 by omega,far (show j<n5 by omega),hout j j1]
  | false =>
   simp -dsimp [t2,t5,t6,mdk,mz,z0,e5,e6,k1,k2,k3,k4,nes]
   refine ⟨by omega,⟨.tup [d.v,txsV l], ?_,d,l,s1,s2,by omega,hw,rfl⟩,fun j j1 => ?_⟩
   ·have hb:=fun (mm:Mem) (hm:mm id=some (.box 9 1 (txsT l)))=>bor_txs 2 hm
    have hb2:=hb (upper n (updM (updM s.m (n+1) (some (rdB (bs.take 2000) p5))) n (some (.box 28 3 [.v (.int .i64 d.now.people),.v (.sl (d.now.story.map Claim.v)),.v (.sl (d.past.map Place.v))])))) (by simp [show n≤id by omega,e1,e5,mid])
    simp [hb2]
   ·simp [far j1,show ¬j=n by omega,show ¬j=n+1 by omega,hout j j1]
theorem sayL_small {d:Desk} {l:List (List UInt8)} : (deskSay d l).1.small:=by
 unfold deskSay; split
 ·rename_i h; exact (desk_fine (sayAll_ok l d h.1).1).1
 ·exact ⟨⟨by simp [noDeskV],by simp [noDeskV]⟩,by simp [noDeskV],by simp [noDeskV]⟩
theorem sayL_few {d:Desk} {l:List (List UInt8)} : (deskSay d l).2.length≤40:=by
 unfold deskSay; split
 ·rename_i h; rw [sayAll_len h.1]; exact h.2
 ·simp
theorem say_halves {d:Desk} {l:List (List UInt8)} (hk:deskOk d=true) (hl:l.length≤40) (k:Nat):(deskSay (deskSay d (l.take k)).1 (l.drop k)).1=(deskSay d l).1∧(deskSay d (l.take k)).2++(deskSay (deskSay d (l.take k)).1 (l.drop k)).2=(deskSay d l).2∧deskOk (deskSay d l).1=true∧(∀ x ∈ (deskSay d l).2,x ≠ [])∧(deskSay d l).2.length=l.length:=by
 have e1:deskSay d l=sayAll d l:=if_pos ⟨hk,hl⟩
 have e2:deskSay d (l.take k)=sayAll d (l.take k):=if_pos ⟨hk,by simp; omega⟩
 have e3:deskSay (sayAll d (l.take k)).1 (l.drop k)=sayAll (sayAll d (l.take k)).1 (l.drop k):=if_pos ⟨(sayAll_ok _ _ hk).1,by simp; omega⟩
 rw [e1,e2,e3]
 have:=sayAll_append d (l.take k) (l.drop k)
 rw [List.take_append_drop] at this
 have ho:=sayAll_ok l d hk
 refine ⟨by rw [this],by rw [this],ho.1,ho.2.1,ho.2.2⟩
end TL

namespace TL
open Go Go.Proofs
attribute [local simp] marksV storyV codeV Claim.v Place.v Desk.v Deed.v
theorem allZ_strs (l:List (List UInt8)):allZ 1 (l.map V.str):=fun x hx=>by obtain ⟨p,_,rfl⟩:=List.mem_map.1 hx; exact ⟨by simp,by simp⟩
theorem placeTx_lenD (p:Place):(placeTx p).length≤28 * p.story.length+40:=by
 have hk:=ft (placeOk p)
 rcases hk with hk | hk
 ·rw [placeTx_no hk]; simp
 ·rw [placeTx_shape hk]
  have:=storyTx_len p.people p.story
  unfold restTx
  split
  ·simp
  ·simp only [List.length_cons]; omega
/-- Behind the first half. -/
def Ih1 (n1:Nat) (R H:Desk) (VL VA VF:List V) (half:Int) (s:S):Prop:=∃ b:Nat,s.tm 4=.v (.sl VL)∧s.tm 5=.ptr (n1+1+1) 0∧s.tm 6=.v (.sl VA)∧s.tm 9=.v (.int .i64 half)∧s.tm 10=.ptr b 0∧s.tm 11=.v (.sl VF)∧n1+1+1<b∧b<s.n∧s.mu=false ∧
 s.m (n1+1+1)=some (.box 28 3 [.v (.int .i64 R.now.people),.v (.sl (R.now.story.map Claim.v)),.v (.sl (R.past.map Place.v))])∧s.m b=some (.box 28 3 [.v (.int .i64 H.now.people),.v (.sl (H.now.story.map Claim.v)),.v (.sl (H.past.map Place.v))])
/-- Behind the second half. -/
def Ih2 (n1:Nat) (R:Desk) (VL VA VF VS:List V) (s:S):Prop:=∃ b:Nat,s.tm 4=.v (.sl VL)∧s.tm 5=.ptr (n1+1+1) 0∧s.tm 6=.v (.sl VA)∧s.tm 11=.v (.sl VF)∧s.tm 12=.ptr b 0∧s.tm 13=.v (.sl VS)∧n1+1+1<b∧b<s.n∧s.mu=false ∧
 s.m (n1+1+1)=some (.box 28 3 [.v (.int .i64 R.now.people),.v (.sl (R.now.story.map Claim.v)),.v (.sl (R.past.map Place.v))])∧s.m b=some (.box 28 3 [.v (.int .i64 R.now.people),.v (.sl (R.now.story.map Claim.v)),.v (.sl (R.past.map Place.v))])
/-- The answers, none of which is empty. -/
def Ih3 (n1 b:Nat) (R:Desk) (VL:List V) (O:List (List UInt8)) (VF VS:List V) (e:Nat) (s:S):Prop:=∃ i:Nat,s.tm 4=.v (.sl VL)∧s.tm 5=.ptr (n1+1+1) 0∧s.tm 6=.v (.sl (O.map V.str))∧s.tm 11=.v (.sl VF)∧s.tm 12=.ptr b 0∧s.tm 13=.v (.sl VS)∧s.tm 14=.v (.int .i64 i)∧i≤O.length∧b<s.n∧s.mu=false ∧
 s.m (n1+1+1)=some (.box 28 3 [.v (.int .i64 R.now.people),.v (.sl (R.now.story.map Claim.v)),.v (.sl (R.past.map Place.v))])∧s.m b=some (.box 28 3 [.v (.int .i64 R.now.people),.v (.sl (R.now.story.map Claim.v)),.v (.sl (R.past.map Place.v))])∧(e=1→i=O.length)
theorem lawDeskSay (bs:List UInt8):FnZ Tryz.prog 4 [codeV bs] (.bool true):=by
 refine FZ (rs:=[.tmp 2]) false Tryz.func4 ?_
 by_cases h:(1048576:Int)<bs.length
 ·simp -dsimp [nes,h]
 simp -dsimp [nes,h]
 refine callS_ (drawDeskSay_z bs _ _) ?_
 rintro t m1 n1 ⟨hn1,⟨x,⟨d,l,hd,hf,hl,hw,rfl⟩,rfl⟩,rfl⟩
 have hw':∀ a ∈ l,a.length≤1000000000:=fun a ha=>by have:=hw a ha; omega
 have h1:=deskSayP_fn d l hd hw'
 have h2:=deskSayS_fn d l hd hf hw'
 have h3:=deskOkS_fn d hd hf
 have h4:=sameDesk_fn (deskSay d l).1 (deskSay d l).1 sayL_small
 have h4b:=sameTexts_fn (deskSay d l).2 (deskSay d l).2 (by have:=sayL_few (d:=d) (l:=l); omega)
 by_cases hg:deskOk d=true∧l.length≤40
 case neg =>
  have e:deskSay d l=(noDeskV,[]):=if_neg hg
  have h5:=noDesk_fn noDeskV ⟨⟨by simp [noDeskV],by simp [noDeskV]⟩,by simp [noDeskV],by simp [noDeskV]⟩
  rw [e] at h1 h2 h4 h4b
  have hg':deskOk d=false∨(deskOk d=true∧(40:Int)<l.length):=by
   cases ho:deskOk d
   ·exact .inl rfl
   ·exact .inr ⟨rfl,by have:¬l.length≤40:=fun h=>hg ⟨ho,h⟩; omega⟩
  clear e hg hd hf
  simp -dsimp [nes,nes8,nes9,txsV]
  refine call_ h1 (by simp -dsimp [txsV]) ?_
  simp -dsimp [nes,nes8,nes9,txsV]
  refine call_ h2 (by simp -dsimp [txsV]) ?_
  simp -dsimp [nes,nes8,nes9,txsV]
  refine cl h4 ?_
  simp -dsimp [nes,nes8,nes9,txsV]
  refine call_ h4b (by simp -dsimp [txsV]) ?_
  simp -dsimp [nes,nes8,nes9,txsV]
  refine cl h3 ?_
  rcases hg' with ho | ho
  ·simp -dsimp [nes,nes8,nes9,ho,txsV]
   refine cl h5 ?_
   simp -dsimp [nes,nes8,nes9,txsV]
   refine cl alive_fn ?_
   simp -dsimp [nes,nes8,nes9,txsV]
  ·have h40:=ho.2
   have ho:=ho.1
   have h40':40<l.length:=by omega
   simp -dsimp [nes,nes8,nes9,ho,h40,h40',txsV]
   refine cl h5 ?_
   simp -dsimp [nes,nes8,nes9,txsV]
   refine cl alive_fn ?_
   simp -dsimp [nes,nes8,nes9,txsV]
 have hk:=hg.1
 have h40:=hg.2
 have hh:=say_halves hk h40 (l.length / 2)
 have r1:=hh.1
 have r2:=hh.2.1
 have r3:=hh.2.2.1
 have r4:=hh.2.2.2.1
 have r5:=hh.2.2.2.2
 rw [hk] at h3
 have hq:IntKind.wrap .i64 ((l.length:Int) / 2)=(l.length:Int) / 2:=w64 (by omega) (by omega)
 have wq:((l.length:Int) / 2).toNat=l.length / 2:=by omega
 have tkl:(l.map V.str).take l.length=l.map V.str:=List.take_of_length_le (by simp)
 have lh1:(0:Int)≤(l.length:Int) / 2:=by omega
 have lh2:(l.length:Int) / 2≤l.length:=by omega
 have lh:l.length / 2≤l.length:=by omega
 have f1:=deskSayP_fn d (l.take (l.length / 2)) hd (fun a ha=>hw' a (List.mem_of_mem_take ha))
 have f2:=deskSayP_fn (deskSay d (l.take (l.length / 2))).1 (l.drop (l.length / 2)) sayL_small (fun a ha=>hw' a (List.mem_of_mem_drop ha))
 have f3:=deskLineP_fn (deskSay d l).1 wPlace sayL_small (by decide)
 rw [deskLine_place r3] at f3
 have hpk:=(deskOk_iff.1 r3).2.1
 have f4:=readPlace_fn (placeTx (deskSay d l).1.now) (by have:=placeTx_lenD (deskSay d l).1.now; have:=(placeOk_all hpk).2.2.1; omega)
 rw [readP_some hpk rfl] at f4
 have f5:=samePlace_fn (deskSay d l).1.now (deskSay d l).1.now (place_fine hpk).2.2.1
 have lF:=sayL_few (d:=d) (l:=l.take (l.length / 2))
 have lS:=sayL_few (d:=(deskSay d (l.take (l.length / 2))).1) (l:=l.drop (l.length / 2))
 rw [r1] at f2
 clear hk hd hf r1 r3 hpk hh hg
 refine (⟨_,rfl⟩:∃ x,(deskSay (deskSay d (l.take (l.length / 2))).1 (l.drop (l.length / 2))).2=x).elim fun S2 hS2 => ?_
 rw [hS2] at f2 r2 lS
 refine (⟨_,rfl⟩:∃ x,(deskSay d (l.take (l.length / 2))).1=x).elim fun H hH => ?_
 rw [hH] at f1 f2
 refine (⟨_,rfl⟩:∃ x,(deskSay d (l.take (l.length / 2))).2=x).elim fun F hF => ?_
 rw [hF] at f1 r2 lF
 refine (⟨_,rfl⟩:∃ x,(deskSay d l).1=x).elim fun R hR => ?_
 rw [hR] at h1 h2 h4 f2 f3 f4 f5
 have hpop:optP (some R.now)=.tup [R.now.v,.bool true]:=rfl
 rw [hpop] at f4
 refine (⟨_,rfl⟩:∃ x,(deskSay d l).2=x).elim fun O hO => ?_
 rw [hO] at h1 h2 h4b r2 r4 r5
 clear hS2 hH hF hR hO
 have hmp:F.map V.str++S2.map V.str=O.map V.str:=by rw [← List.map_append,r2]
 have hmO:(O.map V.str).length=l.length:=by rw [List.length_map,r5]
 have hget3:∀ (i:Nat) (hi:i<O.length),(O.map V.str)[i]? = some (.str O[i]):=fun i hi=>by simp [hi]
 have bF:F.length * 16≤140737488355328:=by omega
 have bS:(F.length+S2.length) * 16≤140737488355328:=by omega
 have flF:(F.map V.str).length=F.length:=by simp
 have flS:(S2.map V.str).length=S2.length:=by simp
 have hL:(l.map V.str).length=l.length:=by simp
 have hz:=allZ_strs l
 have hzF:=allZ_strs F
 have hzS:=allZ_strs S2
 simp only [txsV,List.map_take,List.map_drop] at f1 f2 h1 h2 h4b
 refine (⟨_,rfl⟩:∃ x,F.map V.str=x).elim fun VF hVF => ?_
 refine (⟨_,rfl⟩:∃ x,S2.map V.str=x).elim fun VS hVS => ?_
 refine (⟨_,rfl⟩:∃ x,O.map V.str=x).elim fun VA hVA => ?_
 refine (⟨_,rfl⟩:∃ x,l.map V.str=x).elim fun VL hVL => ?_
 rw [hVF] at f1 hmp flF hzF
 rw [hVS] at f2 hmp flS hzS
 rw [hVA] at h1 h2 h4b hmp hmO
 rw [hVL] at h1 h2 f1 f2 hL hz
 rw [← hL] at tkl hq wq lh1 lh2 lh f1 f2 hmO
 have h40v:¬(40:Int)<VL.length:=by omega
 have h40v':¬40<VL.length:=by omega
 simp -dsimp [nes,nes8,nes9,txsV,hVL]
 refine cl h1 ?_
 simp -dsimp [nes,nes8,nes9]
 refine cl h2 ?_
 simp -dsimp [nes,nes8,nes9]
 refine cl h4 ?_
 simp -dsimp [nes,nes8,nes9]
 refine cl h4b ?_
 simp -dsimp [nes,nes8,nes9]
 refine cl h3 ?_
 simp -dsimp [nes,nes8,nes9,hq,wq,hz,lh,lh1,lh2,tkl,h40v,h40v']
 refine twp_cutQ (Ih1 n1 R H VL VA VF ((VL.length:Int) / 2)) ?_ ?_
 ·refine twp_drawT (.run [0,1,2,3] (.alt (.run [4,5,6,7,8,9,10] .done) (.run [8,4,5,6,7,9,10] .done))) [n1] (List.replicate 11 [0]) (List.replicate 11 [0]) (by kernel_rfl) (by kernel_rfl) (by kernel_rfl) (by kernel_rfl) ?_
  simp -dsimp [nes,nes8,nes9,hq,wq,hz,lh,lh1,lh2,tkl]
  refine ordT_both ?_ ?_
  ·simp -dsimp [nes,nes8,nes9,hq,wq,hz,lh,lh1,lh2,tkl]
   refine cl f1 ?_
   simp -dsimp [nes,nes8,nes9,hq,wq,hz,lh,lh1,lh2,tkl]
   refine st_out (I:=Ih1 n1 R H VL VA VF ((VL.length:Int) / 2)) fun s' ht hm' hn' hu' => ?_
   have a4:=ht 4
   have a5:=ht 5
   have a6:=ht 6
   have a9:=ht 9
   have a10:=ht 10
   have a11:=ht 11
   simp -dsimp [nes,nes8,nes9,hq,wq,hz,lh,lh1,lh2,tkl] at a4 a5 a6 a9 a10 a11 hm' hn' hu'
   clear ht
   exact ⟨_,a4,a5,a6,a9,a10,a11,by omega,by omega,hu',by rw [hm']; simp [nes,nes8,nes9],by rw [hm']; simp [nes,nes8,nes9]⟩
  ·simp -dsimp [nes,nes8,nes9,hq,wq,hz,lh,lh1,lh2,tkl]
   refine cl f1 ?_
   simp -dsimp [nes,nes8,nes9,hq,wq,hz,lh,lh1,lh2,tkl]
   refine st_out (I:=Ih1 n1 R H VL VA VF ((VL.length:Int) / 2)) fun s' ht hm' hn' hu' => ?_
   have a4:=ht 4
   have a5:=ht 5
   have a6:=ht 6
   have a9:=ht 9
   have a10:=ht 10
   have a11:=ht 11
   simp -dsimp [nes,nes8,nes9,hq,wq,hz,lh,lh1,lh2,tkl] at a4 a5 a6 a9 a10 a11 hm' hn' hu'
   clear ht
   exact ⟨_,a4,a5,a6,a9,a10,a11,by omega,by omega,hu',by rw [hm']; simp [nes,nes8,nes9],by rw [hm']; simp [nes,nes8,nes9]⟩
 rintro s0 ⟨b,t4,t5,t6,t9,t10,t11,hb0,hb1,hmu,m5,mb⟩
 have gb:=far hb1
 have gn:=far (show n1+1+1<s0.n by omega)
 simp -dsimp [t4]
 refine twp_cutQ (Ih2 n1 R VL VA VF VS) ?_ ?_
 ·refine twp_drawT (.run [0,1,2,3] (.alt (.run [4,5,6,7,8,9,10] .done) (.run [8,4,5,6,7,9,10] .done))) [b] (List.replicate 11 [0]) (List.replicate 11 [0]) (by kernel_rfl) (by kernel_rfl) (by kernel_rfl) (by kernel_rfl) ?_
  simp -dsimp [t4,t5,t6,t9,t10,t11,m5,mb,gb,gn,nes,nes8,nes9,hz,lh,lh1,lh2,wq,tkl]
  refine ordT_both ?_ ?_
  ·simp -dsimp [t4,t5,t6,t9,t10,t11,m5,mb,gb,gn,nes,nes8,nes9,hz,lh,lh1,lh2,wq,tkl]
   refine cl f2 ?_
   simp -dsimp [t4,t5,t6,t9,t10,t11,m5,mb,gb,gn,nes,nes8,nes9,hz,lh,lh1,lh2,wq,tkl]
   refine st_out (I:=Ih2 n1 R VL VA VF VS) fun s' ht hm' hn' hu' => ?_
   have a4:=ht 4
   have a5:=ht 5
   have a6:=ht 6
   have a11:=ht 11
   have a12:=ht 12
   have a13:=ht 13
   simp -dsimp [t4,t5,t6,t9,t10,t11,m5,mb,gb,gn,nes,nes8,nes9,hz,lh,lh1,lh2,wq,tkl] at a4 a5 a6 a11 a12 a13 hm' hn' hu'
   clear ht
   exact ⟨_,a4,a5,a6,a11,a12,a13,by omega,by omega,by rw [hu',hmu],by rw [hm']; simp [gn,gb,m5],by rw [hm']; simp [nes]⟩
  ·simp -dsimp [t4,t5,t6,t9,t10,t11,m5,mb,gb,gn,nes,nes8,nes9,hz,lh,lh1,lh2,wq,tkl]
   refine cl f2 ?_
   simp -dsimp [t4,t5,t6,t9,t10,t11,m5,mb,gb,gn,nes,nes8,nes9,hz,lh,lh1,lh2,wq,tkl]
   refine st_out (I:=Ih2 n1 R VL VA VF VS) fun s' ht hm' hn' hu' => ?_
   have a4:=ht 4
   have a5:=ht 5
   have a6:=ht 6
   have a11:=ht 11
   have a12:=ht 12
   have a13:=ht 13
   simp -dsimp [t4,t5,t6,t9,t10,t11,m5,mb,gb,gn,nes,nes8,nes9,hz,lh,lh1,lh2,wq,tkl] at a4 a5 a6 a11 a12 a13 hm' hn' hu'
   clear ht
   exact ⟨_,a4,a5,a6,a11,a12,a13,by omega,by omega,by rw [hu',hmu],by rw [hm']; simp [gn,gb,m5],by rw [hm']; simp [nes]⟩
 clear t4 t5 t6 t9 t10 t11 m5 mb gb gn hmu
 rintro s1 ⟨c,t4,t5,t6,t11,t12,t13,hc0,hc1,hmu,m5,mb⟩
 have gc:=far hc1
 have gn:=far (show n1+1+1<s1.n by omega)
 simp -dsimp
 refine twp_loopC (Ih3 n1 c R VL O VF VS 0) (fun s=>O.length-natOf (s.tm 14)) (Ih3 n1 c R VL O VF VS 1) ?_ ?_ ?_
 ·exact ⟨0,by simp -dsimp [t4],by simp -dsimp [t5],by simp -dsimp [t6,hVA],by simp -dsimp [t11],by simp -dsimp [t12],by simp -dsimp [t13],by simp -dsimp,by omega,by simp -dsimp; omega,by simp -dsimp [hmu],by simp -dsimp [m5],by simp -dsimp [mb],by simp⟩
 ·rintro s ⟨i,u4,u5,u6,u11,u12,u13,u14,hi,hcn,umu,um5,umb,hend⟩
  by_cases hlt:i<O.length
  case neg =>
   simp -dsimp [u6,u14,hlt]
   exact ⟨i,by simp -dsimp [u4],by simp -dsimp [u5],by simp -dsimp [u6],by simp -dsimp [u11],by simp -dsimp [u12],by simp -dsimp [u13],by simp -dsimp [u14],hi,by simp -dsimp; omega,by simp -dsimp [umu],by simp -dsimp [um5],by simp -dsimp [umb],fun _=>by omega⟩
  have hget:=hget3 i hlt
  have wi:IntKind.wrap .i64 ((i:Int)+1)=((i+1:Nat):Int):=by rw [w64 (by omega) (by omega)]; omega
  have hmu1:O.length-(i+1)<O.length-i:=by omega
  have hne:=r4 O[i] (List.getElem_mem hlt)
  simp -dsimp [u6,u14,hlt,hget,hne,wi,hmu1]
  exact ⟨i+1,by simp -dsimp [u4],by simp -dsimp [u5],by simp -dsimp [u6],by simp -dsimp [u11],by simp -dsimp [u12],by simp -dsimp [u13],by simp -dsimp,by omega,by simp -dsimp; omega,by simp -dsimp [umu],by simp -dsimp [um5],by simp -dsimp [umb],by simp⟩
 ·rintro s ⟨i,u4,u5,u6,u11,u12,u13,u14,hi,hcn,umu,um5,umb,hend⟩
  rw [hVA] at u6
  have g1:=far hcn
  have g2:=far (show n1+1+1<s.n by omega)
  have g3:=far (show n1<s.n by omega)
  have g4:=far (show n1+1<s.n by omega)
  have d1:¬c=n1+1+1:=by omega
  have d2:¬n1+1+1=c:=by omega
  simp -dsimp [u5,um5]
  refine call_ f3 (by simp -dsimp [wPlace]) ?_
  simp -dsimp [u4,u5,u6,u11,u12,u13,um5,umb,g1,g2,g3,g4,d1,d2,nes,nes8]
  refine cl f4 ?_
  simp -dsimp [u4,u5,u6,u11,u12,u13,um5,umb,g1,g2,g3,g4,d1,d2,nes,nes8]
  refine cl h4 ?_
  simp -dsimp [u4,u5,u6,u11,u12,u13,um5,umb,umu,g1,g2,g3,g4,d1,d2,nes,nes8,flF,flS,bF,bS,hzF,hzS,hmp]
  refine call_ h4b (by simp -dsimp [hmp]) ?_
  simp -dsimp [u4,u5,u6,u11,u12,u13,um5,umb,umu,g1,g2,g3,g4,d1,d2,nes,nes8,flF,flS,bF,bS,hzF,hzS,hmp,hmO]
  refine cl f5 ?_
  simp -dsimp
end TL

namespace TL
open Go
theorem lt_of_cell {W:World} {g:Nat} {v:Value} (h:W.cell? ⟨g,0,none⟩=some v):g<W.heap.size:=by
 unfold World.cell? at h
 split at h
 ·rename_i hb; exact (Array.getElem?_eq_some_iff.1 hb).1
 ·cases h
end TL

namespace TL
open Go Go.Proofs
/-- A listed sentinel is an interface value. -/
theorem laid_iface {P:Program} {n nm:String} {d:DataW Unit} {r:List (String × DataW Unit)} {W:World} {g:Nat} {ti:TypeId} {ms:Array (String × TypeId)}
  (h:laidMet P ((n,.iface nm d) :: r) W) (hg:P.globalNamed n=some g) (ht:(P.globals[g]?).map (·.type)=some ti) (hi:P.underlying ti=some (.interface ms)):∃ u v,W.cell? ⟨g,0,none⟩=some (.iface u v):=by
 obtain ⟨ps,⟨g0,t0,cs0,f0,p0,q0,hg0,ht0,hv0,hd0,_,e0⟩,_,hrows⟩:=h
 obtain rfl:=Option.some.inj (hg.symm.trans hg0)
 obtain rfl:=Option.some.inj (ht.symm.trans ht0)
 obtain ⟨l0⟩:=cs0
 obtain ⟨f1,u,v,hl,_,_⟩:=iface_of_trod hi hd0
 have hl:l0=[.iface u v]:=hl
 subst hl
 exact ⟨u,v,by simpa using World.var?_cell hg0 hv0 0⟩
theorem gl_start {W:World} (h:W.ShapedOpen Tryz.prog) (hr:∃ u v,W.cell? ⟨Tryz.laysC172_ren.g 16,0,none⟩=some (.iface u v)) (hs:∃ u v,W.cell? ⟨Tryz.laysC172_ren.g 15,0,none⟩=some (.iface u v)):Gl Tryz.prog (ZA W) W:=by
 have n1 : Tryz.prog.globalNamed "internal/bytealg.MaxLen" = some 0 := by kernel_rfl
 have n2 : Tryz.prog.globalNamed "strconv.ErrSyntax" = some (Tryz.laysC172_ren.g 15) := Tryz.laysC172.m15
 have n3 : Tryz.prog.globalNamed "strconv.ErrRange" = some (Tryz.laysC172_ren.g 16) := Tryz.laysC172.m16
 have hm:∃ m,W.cell? ⟨0,0,none⟩=some (.int .i64 m):=Tryz.laysM145.s1_3 W h
 rintro g Q (⟨e,rfl⟩ | ⟨e | e,rfl⟩)
 ·rw [n1] at e; cases e
  obtain ⟨m,hm⟩:=hm
  exact ⟨lt_of_cell hm,_,hm,m,rfl⟩
 ·rw [n2] at e
  obtain rfl:=Option.some.inj e
  obtain ⟨u,v,hs⟩:=hs
  exact ⟨lt_of_cell hs,_,hs,.inr ⟨u,v,rfl⟩⟩
 ·rw [n3] at e
  obtain rfl:=Option.some.inj e
  obtain ⟨u,v,hr⟩:=hr
  exact ⟨lt_of_cell hr,_,hr,.inr ⟨u,v,rfl⟩⟩
end TL

namespace TL
open Go
variable {H:Type} {enc:TypeId × Value→H}
theorem wrapLS {a:Assume} {C:Checked} {os:Os} {f:FuncId} {fn:Func} {s:ChangeSpec} {conds:List PathCond} {apart fresh handsOn again:Bool} {X:World→Array Value→Prop}
  (hX:∀ (w w':World) (args:Array Value),w.heap=w'.heap→X w args→X w' args)
  (own:ownKnob C.prog.godebug=none) (started:os.Started) (noInit:C.prog.inits.idxOf? f=none) (hfn:C.prog.funcs[f]? = some fn)
  (witness:∃ (w:World) (tape:Tape) (i:Input),w.os=os∧(w.forCall tape i).Shaped C.prog∧i.vars=[]∧Input.okWide C.prog (w.forCall tape i) .any w.heap.size f i ∧
   ((s.pre enc C.prog fn conds apart (w.forCall tape i).memory i.args∧X (w.forCall tape i).memory i.args)∧sizedMet enc C.prog fn (OpenSpec.ofChange s) apart (w.forCall tape i).memory i.args)∧a.holds C.prog (lone (Frame.enter C.prog f i.args .normal) [] (w.forCall tape i)))
  (contract:∀ (W:World) (base:Nat) (args:Array Value) (ds gs:List (DataW H)) (before:List MemPlace),
   (∀ (j:Nat) t v,fn.params[j]? = some t→args[j]? = some v→Value.okWide C.prog W .any base t v) →
   DataW.Whole enc C.prog fn.params.toList s.vars apart W args.toList ds gs before→X W args→W.ShapedOpen C.prog →
   Calls C.prog f args W fun e W'=>∃ v,e=.returned v∧s.post enc C.prog fn apart fresh handsOn again W args v W') :
  ReturnsInHanded a C os f .any (fun w args=>(s.pre enc C.prog fn conds apart w args∧X w args)∧sizedMet enc C.prog fn (OpenSpec.ofChange s) apart w args) (s.post enc C.prog fn apart fresh handsOn again):=by
 refine returnsInHanded_of_calls own started noInit witness ?_
 intro w tape i _ hsh _ hok hpre _
 obtain ⟨_,_,_,fn',hfn',_,_,_,_,hval⟩:=hok
 have e:fn'=fn:=Option.some.inj (hfn'.symm.trans hfn)
 subst e
 obtain ⟨⟨⟨ds,gs,before,hw,_⟩,hx⟩,_⟩:=hpre
 have hw':=DataW.Whole.of_heap (w':=w.forCall tape i) (by rfl) hw
 refine (contract (w.forCall tape i) w.heap.size i.args ds gs before hval hw' (hX _ _ _ (by rfl) hx) hsh).mono fun e W' ⟨v,he,hp⟩ => ?_
 subst he
 exact ChangeSpec.post_blind hp
end TL

namespace Go.Proofs.YtnimfdpinpggdabGreatDoor.wide
open Go
theorem may_enter:Tryz.pinned.checked.prog.mayEnter=true:=by kernel_rfl
end Go.Proofs.YtnimfdpinpggdabGreatDoor.wide

namespace Go.Proofs.YtnimfdpinpggdabGreatDoor.wide
open Go
theorem lifts_are:Tryz.pinned.checked.prog.liftsFinal=Rows.fnDeskLineRow.lifted:=by kernel_rfl
end Go.Proofs.YtnimfdpinpggdabGreatDoor.wide

namespace Go.Proofs.YtnimfdpinpggdabGreatDoor.wide
open Go
theorem make_is:Tryz.pinned.checked.prog.make=some Rows.fnDeskLineRow.make:=by kernel_rfl
end Go.Proofs.YtnimfdpinpggdabGreatDoor.wide

namespace Go.Proofs.YtnimfdpinpggdabGreatDoor.wide
open Go
theorem main_is : Tryz.pinned.checked.prog.mainIs = some (true,"aad06b1229ffa933cf94380fe42312d841d5ca68ad6e6a8bd7923a659e37bab5".toList) := by kernel_rfl
theorem looks_are:true=Tryz.pinned.checked.prog.looks []:=by kernel_rfl
end Go.Proofs.YtnimfdpinpggdabGreatDoor.wide
